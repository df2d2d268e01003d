/- Part of the proof. No condition. -/
import Derived.Test.YtcfpfefadlnmcaaGreatZ37
import Derived.Test.YtcfpfefadlnmcaaGreatProg
import Derived.KernelRfl
import Derived.Test.YtcfpfefadlnmcaaGreatYVJoin
import GoSem.Core.Float
import Derived.Laws.ComplexArith
import Derived.Test.YtcfpfefadlnmcaaGreatZ36
import Derived.Test.YtcfpfefadlnmcaaGreatYVArg
namespace Go.Proofs.YtcfpfefadlnmcaaGreat
open IntKind (i8 i16 i32 i64 u8 u16 u32 u64)
open Go.Mach
set_option maxRecDepth 100000
set_option linter.unusedVariables false
noncomputable section
def iZ (x0:List bL)(x1:Int)(K0 K1:Unit->Prop)(s:Int)(nx:Int->Prop):Prop :=
 if (decide (s<x1))=true then ck (aG s x0.length) (n9 (x0.getD ((s).toNat) ([],(0,[]))) (fun r4=>if (!r4)=true then K1 ()else nx (i64.wrap (s+1))))else K0 ()
structure vD (x0:List bL)(x1:Int)(K0 K1:Unit->Prop)(s:Int):Prop where
 it:Go.Mach.Loop (iZ x0 x1 K0 K1) s
def iT (x1:List bL)(x2:Int)(x7:List nR)(x8:List bL)(x13:List (List Int))(K0:Bool->Prop)(K1:Unit->Prop)(s:Bool×Int)(nx:(Bool×Int)->Prop):Prop :=
 if (decide (s.2<x2))=true then ck (aG s.2 x1.length) (ck (((x1.getD ((s.2).toNat) ([],(0,[]))).1)≠[]/\(0:Int)<=1/\(1:Int)<=(((x1.getD ((s.2).toNat) ([],(0,[]))).1).length:Int)/\(((x1.getD ((s.2).toNat) ([],(0,[]))).1).length:Int)<=(((x1.getD ((s.2).toNat) ([],(0,[]))).1).length:Int)) (ck (aG s.2 x13.length) (bI ((((x1.getD ((s.2).toNat) ([],(0,[]))).1).take ((((x1.getD ((s.2).toNat) ([],(0,[]))).1).length:Int)).toNat).drop ((1:Int)).toNat) (x13.getD ((s.2).toNat) []) (fun r7=>jn (fun v8=>if v8=true then K1 ()else jn (fun v10=>nx (v10,i64.wrap (s.2+1))) (fun J11=>if s.1=true then J11 true else jn (fun v12=>J11 v12) (fun J13=>if (decide (0<s.2))=true then ck (aG (i64.wrap (s.2-1)) x7.length) (J13 (((x7.getD ((i64.wrap (s.2-1)).toNat) (0,(0,(0,(0,(0,(0,false))))))).1)==3))else J13 false))) (fun J9=>if (!r7)=true then J9 true else ck (aG 0 ((x1.getD ((s.2).toNat) ([],(0,[]))).1).length) (ck (aG 0 x8.length) (ck (aG 0 ((x8.getD 0 ([],(0,[]))).1).length) (J9 ((((x1.getD ((s.2).toNat) ([],(0,[]))).1).getD 0 0) != (((x8.getD 0 ([],(0,[]))).1).getD 0 0))))))))))else K0 s.1
structure vA (x1:List bL)(x2:Int)(x7:List nR)(x8:List bL)(x13:List (List Int))(K0:Bool->Prop)(K1:Unit->Prop)(s:Bool×Int):Prop where
 it:Go.Mach.Loop (iT x1 x2 x7 x8 x13 K0 K1) s
structure rS (a0:Q4)(a1:aLT)(a2:bL)(Q:Int->Prop):Prop where
 it:jn (fun v1=>if v1=true then Q 1 else vD a1.1 (a1.1.length:Int) (fun _=>fF a0 (fun r6=>vA a1.1 (a1.1.length:Int) a0.2 a1.1 r6.1 (fun y14=>jn (fun v15=>if v15=true then Q 2 else Q 0) (fun J16=>if (((a1.2.length:Int) != (a1.1.length:Int))&&(y14||(decide (0<(a1.2.length:Int)))))=true then J16 true else ck (aG (i64.wrap ((a1.1.length:Int)-1)) a1.1.length) (bI a2.1 ((a1.1.getD ((i64.wrap ((a1.1.length:Int)-1)).toNat) ([],(0,[]))).1) (fun r17=>J16 (!r17))))) (fun _=>Q 2) (false,0))) (fun _=>Q 1) 0) (fun J2=>if ((a1.1.length:Int) != (i64.wrap ((a0.2.length:Int)+1)))=true then J2 true else n9 a2 (fun r3=>J2 (!r3)))
def F6:Ent:=⟨[3,4,5,29,30,31],[sPt 0,sPt 1,sPt 2,sZ aY,sI,sI],[.box [lI,lI,lI,lZ cP] false,.box [lZ aY,lZ (.slc aD)] false,bV],fun⟨⟨_,_,_,a,b,c,_⟩,⟨⟨d,e,f,g,_⟩,⟨i,j,_⟩,⟨l,m,n,_⟩,_⟩⟩ k=>vD a b (fun _=>k (.exit 0) ⟨[(3,.ptr 0 0),(4,.ptr 1 0),(5,.ptr 2 0)],[.box [vI d,vI e,vI f,vZ cP g] false,.box [vZ aY i,vZ (.slc aD) j] false,.box [vZ aD l,vI m,vZ aI n] false]⟩) (fun _=>k .ret ⟨[(6,vI 1)],[]⟩) c⟩
def FU:Ent:=⟨[3,4,5,9,12,46,47,48],[sPt 0,sPt 1,sPt 2,sC (.own 3),sB,sZ aY,sI,sI],[.box [lI,lI,lI,lZ cP] false,.box [lZ aY,lZ (.slc aD)] false,bV,.lst true (.slc aD) false],fun⟨⟨_,_,_,_,a,b,c,d,_⟩,⟨⟨_,_,_,i,_⟩,⟨j,l,_⟩,⟨m,n,o,_⟩,p,_⟩⟩ k=>vA b c i j p (fun y22=>k (.exit 2) ⟨[(4,.ptr 0 0),(5,.ptr 1 0),(12,vB y22)],[.box [vZ aY j,vZ (.slc aD) l] false,.box [vZ aD m,vI n,vZ aI o] false]⟩) (fun _=>k .ret ⟨[(6,vI 2)],[]⟩) (a,d)⟩
def II:=I6.put tt 44 Tryz.func44 [6] [] [(58,F6),(506,FU)] [.agg [lI,lI,lI,lZ cP],.agg [lZ aY,lZ (.slc aD)],.agg cO] [] [(false,aD)] (fun x=>rS ((x.1.1,(x.1.2.1,x.1.2.2.1)),x.1.2.2.2.1) (x.2.1.1,x.2.1.2.1) (x.2.2.1.1,(x.2.2.1.2.1,x.2.2.1.2.2.1))) ⟨fun _ _ hs ⟨⟨_,_,_,a,b,c,_⟩,⟨⟨d,e,f,g,_⟩,⟨i,j,_⟩,⟨l,m,n,_⟩,_⟩⟩ _ h=>aH hs (fun y=>⟨⟨(),(),(),a,b,y,()⟩,⟨⟨d,e,f,g,()⟩,⟨i,j,()⟩,⟨l,m,n,()⟩,()⟩⟩) c h.it,fun _ _ hs ⟨⟨_,_,_,_,a,b,c,d,_⟩,⟨⟨e,f,g,i,_⟩,⟨j,l,_⟩,⟨m,n,o,_⟩,p,_⟩⟩ _ h=>aH hs (fun y=>⟨⟨(),(),(),(),y.1,b,c,y.2,()⟩,⟨⟨e,f,g,i,()⟩,⟨j,l,()⟩,⟨m,n,o,()⟩,p,()⟩⟩) (a,d) h.it,trivial⟩ fun _ _ h=>⟨_,h.it,by kernel_rfl⟩
structure iM  (K0:((List Int)×List Int)->Prop):Prop where
 it:K0 (([]:List Int),([]:List Int))
structure t7 (a0:nR)(a1:iL)(a2 a3:bL)(a4:List Int)(Q:(bL×pQ×Int)->Prop):Prop where
 it:if (a0.1==1)=true then oQ a2 a1.1 (fun r1=>iM (fun y2=>Q ((y2.1,(0,y2.2)),r1.1,r1.2)))else if (a0.1==2)=true then ck (aG 2 a3.1.length) (ck (aG 3 a3.1.length) (pH a2 a1.1 (a3.1.getD 2 0) (a3.1.getD 3 0) a0.2.2.2.1 a0.2.2.2.2.1 (fun r3=>iM (fun y4=>Q ((y4.1,(0,y4.2)),r3.1,r3.2)))))else if (a0.1==3)=true then qY a2 a4 a3.1 (fun r5=>iM (fun y6=>Q ((y6.1,(0,y6.2)),r5.1,r5.2)))else if (a0.1==4)=true then rV a2 a3.1 a0.2.2.1 a0.2.2.2.1 (fun r7=>iM (fun y8=>Q ((y8.1,(0,y8.2)),r7.1,r7.2)))else if (a0.1==5)=true then qC a2 a3 (fun r9=>Q (r9.1,(([]:List Int),(0,([]:List Int))),r9.2))else if (a0.1==6)=true then t6 a2 a3.1 (fun r10=>Q (r10.1,(([]:List Int),(0,([]:List Int))),r10.2))else Q (a2,(([]:List Int),(0,([]:List Int))),0)
def JB:Ent:=⟨[10,11,13,14],[sPt 0,sPt 1,sPt 2,sI],[dJ,dJ,.box [lZ aD,lI,.cst (.own 3)] false,oQc],fun⟨⟨_,_,_,a,_⟩,⟨_,_,⟨d,e,_⟩,f,_⟩⟩ k=>iM (fun y11=>k .ret ⟨[(10,.ptr 0 0),(11,.ptr 1 0),(12,vI a)],[.box [vZ aD y11.1,vI 0,vZ aI y11.2] false,.box [vZ aD d,vI e,.own 2] false,.lst true aX f false]⟩)⟩
def ME:=II.put tt 89 Tryz.func89 [10,11,12] [(63,[⟨10,some 0,true,aD⟩,⟨10,some 2,true,aI⟩]),(503803,[⟨10,some 0,true,aD⟩,⟨10,some 2,true,aI⟩]),(1007615,[⟨10,some 0,true,aD⟩,⟨10,some 2,true,aI⟩]),(2015227,[⟨10,some 0,true,aD⟩,⟨10,some 2,true,aI⟩])] [(31,JB)] [.agg [lI,lI,lI,lI,lI,lI,lB],.agg [lZ aD,lI,lZ aI,lZ aX,lZ aD,lI,lZ aI],.agg cO,.agg cO,sZ aD] [(.p .f (.p .n .f)),(.p .f .n)] [(true,aY),(true,uF),(false,aD)] (fun x=>t7 (x.1.1,(x.1.2.1,(x.1.2.2.1,(x.1.2.2.2.1,(x.1.2.2.2.2.1,(x.1.2.2.2.2.2.1,x.1.2.2.2.2.2.2.1)))))) ((x.2.1.1,(x.2.1.2.1,x.2.1.2.2.1)),(x.2.1.2.2.2.1,(x.2.1.2.2.2.2.1,(x.2.1.2.2.2.2.2.1,x.2.1.2.2.2.2.2.2.1)))) (x.2.2.1.1,(x.2.2.1.2.1,x.2.2.1.2.2.1)) (x.2.2.2.1.1,(x.2.2.2.1.2.1,x.2.2.2.1.2.2.1)) x.2.2.2.2.1) ⟨fun _ _ hs ⟨⟨_,_,_,_,_⟩,⟨_,_,⟨_,_,_⟩,_,_⟩⟩ _ h=>aR hs h.it,trivial⟩ fun _ _ h=>⟨_,h.it,by kernel_rfl⟩
structure rY (a0:nR)(a1 a2:bL)(Q:(wO×Int)->Prop):Prop where
 it:if (a0.1==1)=true then oA a1 a2 (fun r1=>pJ a1 (fun r2=>if (r1.2==0)=true then if (r2.2 != 0)=true then Q ((false,((([]:List Int),(0,([]:List Int))),(([]:List Int),(0,([]:List Int))))),r2.2)else Q ((true,(r1.1,r2.1)),0)else if (r1.2 != 0)=true then Q ((false,((([]:List Int),(0,([]:List Int))),(([]:List Int),(0,([]:List Int))))),r1.2)else Q ((true,(r1.1,r2.1)),0)))else oT a1 a2 a0.2.2.1 a0.2.2.2.1 a0.2.2.2.2.1 (fun r3=>qA a1 (fun r4=>if (r3.2==0)=true then if (r4.2 != 0)=true then Q ((false,((([]:List Int),(0,([]:List Int))),(([]:List Int),(0,([]:List Int))))),r4.2)else Q ((true,(r3.1,r4.1)),0)else if (r3.2 != 0)=true then Q ((false,((([]:List Int),(0,([]:List Int))),(([]:List Int),(0,([]:List Int))))),r3.2)else Q ((true,(r3.1,r4.1)),0)))
def dQ:=ME.put tt 88 Tryz.func88 [6,7] [] [] [.agg [lI,lI,lI,lI,lI,lI,lB],.agg cO,.agg cO] [(.p .n (.p (.p .f .n) (.p .f .n)))] [(true,gX),(false,aD)] (fun x=>rY (x.1.1,(x.1.2.1,(x.1.2.2.1,(x.1.2.2.2.1,(x.1.2.2.2.2.1,(x.1.2.2.2.2.2.1,x.1.2.2.2.2.2.2.1)))))) (x.2.1.1,(x.2.1.2.1,x.2.1.2.2.1)) (x.2.2.1.1,(x.2.2.1.2.1,x.2.2.1.2.2.1))) trivial fun _ _ h=>⟨_,h.it,by kernel_rfl⟩
def bG:Inl:=VM (dQ.cfg tt none false 0) 90 Tryz.f90 [] [6,59,66,77,79,182,187,189,198,199,200,201] []
theorem eY:dH Tryz.prog bG:=xI (G:=(dQ.cfg tt none false 0)) Tryz.func90 dQ.ok hI0 trivial
structure aP  (K0:Unit->Prop):Prop where
 it:K0 ()
structure aN (x0 x3 x4 x5 x10:Int)(x12:List Int)(x13:Int)(x14:List Int)(x22:List bL)(K0:(Int×List bL)->Prop):Prop where
 it:if ((x0==0)&&(x5==7))=true then ck (aG x10 x22.length) (if (decide (0<(((x22.getD ((x10).toNat) ([],(0,[]))).1).length:Int)))=true then ck (aG x10 x22.length) (n8 (x22.getD ((x10).toNat) ([],(0,[]))) (x12,(x13,x14)) (fun rii5=>if (rii5.2 != 0)=true then aP (fun _=>K0 (rii5.2,x22))else gY x4 x10 1 (fun rii6=>j0 rii5.1 8 x3 rii6 (fun rii7=>if (rii7.2 != 0)=true then aP (fun _=>K0 (rii7.2,x22))else ck (aG x10 x22.length) (aP (fun _=>K0 (0,(x22.set ((x10).toNat) rii7.1))))))))else ck (aG x10 x22.length) (aP (fun _=>K0 (0,(x22.set ((x10).toNat) (x12,(x13,x14)))))))else aP (fun _=>K0 (x0,x22))
structure bX (x0 x1 x4 x5 x6 x11:Int)(x13:List Int)(x14:Int)(x15:List Int)(x23:List bL)(K0:(Int×List bL)->Prop):Prop where
 it:if (x1==0)=true then ck (aG (i64.wrap (x0-1)) x23.length) (if (decide (0<(((x23.getD ((i64.wrap (x0-1)).toNat) ([],(0,[]))).1).length:Int)))=true then ck (aG (i64.wrap (x0-1)) x23.length) (n8 (x23.getD ((i64.wrap (x0-1)).toNat) ([],(0,[]))) (x13,(x14,x15)) (fun rii10=>if (rii10.2 != 0)=true then aN rii10.2 x4 x5 x6 x11 x13 x14 x15 x23 (fun yi5=>K0 (yi5.1,yi5.2))else gY x5 (i64.wrap (x0-1)) 1 (fun rii11=>j0 rii10.1 8 x4 rii11 (fun rii12=>if (rii12.2 != 0)=true then aN rii12.2 x4 x5 x6 x11 x13 x14 x15 x23 (fun yi6=>K0 (yi6.1,yi6.2))else ck (aG (i64.wrap (x0-1)) x23.length) (aN 0 x4 x5 x6 x11 x13 x14 x15 (x23.set ((i64.wrap (x0-1)).toNat) rii12.1) (fun yi7=>K0 (yi7.1,yi7.2)))))))else ck (aG (i64.wrap (x0-1)) x23.length) (aN 0 x4 x5 x6 x11 x13 x14 x15 (x23.set ((i64.wrap (x0-1)).toNat) (x13,(x14,x15))) (fun yi8=>K0 (yi8.1,yi8.2))))else aN x1 x4 x5 x6 x11 x13 x14 x15 x23 (fun yi9=>K0 (yi9.1,yi9.2))
structure bY (x0:Int)(x1:List Int)(x4 x5 x6 x7 x8 x9 x10 x11:Int)(x12:Bool)(x13:List Int)(x14:Int)(x15 x16 x17:List Int)(x18:Int)(x19 x20:List Int)(x21:Int)(x22 x23:List Int)(x24:Int)(x25:List Int)(x33:List bL)(K0:(Int×List bL)->Prop):Prop where
 it:t7 (x6,(x7,(x8,(x9,(x10,(x11,x12)))))) ((x13,(x14,x15)),(x16,(x17,(x18,x19)))) (x20,(x21,x22)) (x23,(x24,x25)) x1 (fun ri2=>if ((ri2.2.2==0)&&((ri2.1.1.length:Int)==0))=true then gY x5 x0 2 (fun ri3=>j0 ri2.2.1 8 x4 ri3 (fun ri4=>bX x0 ri4.2 x4 x5 x6 x11 ri4.1.1 ri4.1.2.1 ri4.1.2.2 x33 (fun yi5=>K0 (yi5.1,yi5.2))))else bX x0 ri2.2.2 x4 x5 x6 x11 ri2.1.1 ri2.1.2.1 ri2.1.2.2 x33 (fun yi6=>K0 (yi6.1,yi6.2)))
structure bE (x0 x3 x4 x5 x6 x7 x8 x9 x10:Int)(x11:Bool)(x12:List Int)(x13:Int)(x14 x15 x16:List Int)(x17:Int)(x18:List Int)(x20:List (List Int))(x21:List Int)(x22:Int)(x23 x24:List Int)(x25:Int)(x26:List Int)(x34:List bL)(K0:(Int×List bL)->Prop):Prop where
 it:if (decide (0<(x20.length:Int)))=true then ck (aG x0 x20.length) (bY x0 (x20.getD ((x0).toNat) []) x3 x4 x5 x6 x7 x8 x9 x10 x11 x12 x13 x14 x15 x16 x17 x18 x21 x22 x23 x24 x25 x26 x34 (fun yi2=>K0 (yi2.1,yi2.2)))else bY x0 ([]:List Int) x3 x4 x5 x6 x7 x8 x9 x10 x11 x12 x13 x14 x15 x16 x17 x18 x21 x22 x23 x24 x25 x26 x34 (fun yi3=>K0 (yi3.1,yi3.2))
def mY:Ent:=⟨[0,4,7,8,9,13,14,123,128,130,139,140,141,142],[sPt 0,sI,sPt 1,sPt 2,sPt 3,sPt 4,sPt 5,sZ dN,sPt 6,sPt 7,sPt 0,sC (.own 8),sI,sC (.undef)],[.box [.cst (.own 9),.int .u64,lI] false,.box [lI,lI,lI,lI,lI,lI,lB] false,.box [lZ aD,lI,lZ aI,lZ aX,lZ aD,lI,lZ aI] false,.box [lZ aY,lZ (.slc aD)] false,bV,bV,.box [lI,lI,lI,lZ cP] false,.box [lZ aY,lZ (.slc aD)] false,.lst false gX false,.lst false aY false],fun⟨⟨_,a,_,_,_,_,_,b,_,_,_,_,c,_⟩,⟨⟨_,d,e,_⟩,⟨f,g,i,j,l,m,n,_⟩,⟨o,p,q,t,u,w,z,_⟩,⟨_,a1,_⟩,⟨a2,a3,a4,_⟩,⟨a5,a6,a7,_⟩,⟨a8,a9,b0,b1,_⟩,⟨b2,b3,_⟩,b4,b5,_⟩⟩ k=>bE a d e f g i j l m n o p q t u w z a1 a2 a3 a4 a5 a6 a7 b5 (fun yi9=>k .ret ⟨[(12,vI yi9.1),(123,vZ dN b),(128,.ptr 0 0),(130,.ptr 1 0),(139,.ptr 2 0),(140,.own 3),(141,vI c),(142,.undef)],[.box [vI a8,vI a9,vI b0,vZ cP b1] false,.box [vZ aY b2,vZ (.slc aD) b3] false,.box [.own 4,vK .u64 d,vI e] false,.lst false gX b4 false,.lst false aY yi9.2 false]⟩)⟩
def mX:Ent:=⟨[0,4,7,8,13,14,17,123,128,130,139,140,141,142],[sPt 0,sI,sPt 1,sPt 2,sPt 3,sPt 4,sZ aD,sZ dN,sPt 5,sPt 6,sPt 0,sC (.own 7),sI,sC (.undef)],[.box [.cst (.own 8),.int .u64,lI] false,.box [lI,lI,lI,lI,lI,lI,lB] false,.box [lZ aD,lI,lZ aI,lZ aX,lZ aD,lI,lZ aI] false,bV,bV,.box [lI,lI,lI,lZ cP] false,.box [lZ aY,lZ (.slc aD)] false,.lst false gX false,.lst false aY false],fun⟨⟨_,a,_,_,_,_,b,c,_,_,_,_,d,_⟩,⟨⟨_,e,f,_⟩,⟨g,i,j,l,m,n,o,_⟩,⟨p,q,t,u,w,z,a0,_⟩,⟨a1,a2,a3,_⟩,⟨a4,a5,a6,_⟩,⟨a7,a8,a9,b0,_⟩,⟨b1,b2,_⟩,b3,b4,_⟩⟩ k=>bY a b e f g i j l m n o p q t u w z a0 a1 a2 a3 a4 a5 a6 b4 (fun yi10=>k .ret ⟨[(12,vI yi10.1),(123,vZ dN c),(128,.ptr 0 0),(130,.ptr 1 0),(139,.ptr 2 0),(140,.own 3),(141,vI d),(142,.undef)],[.box [vI a7,vI a8,vI a9,vZ cP b0] false,.box [vZ aY b1,vZ (.slc aD) b2] false,.box [.own 4,vK .u64 e,vI f] false,.lst false gX b3 false,.lst false aY yi10.2 false]⟩)⟩
def mZ:Ent:=⟨[0,4,7,18,20,123,128,130,139,140,141,142],[sPt 0,sI,sPt 1,sPt 2,sI,sZ dN,sPt 3,sPt 4,sPt 0,sC (.own 5),sI,sC (.undef)],[.box [.cst (.own 6),.int .u64,lI] false,.box [lI,lI,lI,lI,lI,lI,lB] false,bV,.box [lI,lI,lI,lZ cP] false,.box [lZ aY,lZ (.slc aD)] false,.lst false gX false,.lst false aY false],fun⟨⟨_,a,_,_,b,c,_,_,_,_,d,_⟩,⟨⟨_,e,f,_⟩,⟨g,_,_,_,_,n,_⟩,⟨p,q,t,_⟩,⟨u,w,z,a0,_⟩,⟨a1,a2,_⟩,a3,a4,_⟩⟩ k=>bX a b e f g n p q t a4 (fun yi11=>k .ret ⟨[(12,vI yi11.1),(123,vZ dN c),(128,.ptr 0 0),(130,.ptr 1 0),(139,.ptr 2 0),(140,.own 3),(141,vI d),(142,.undef)],[.box [vI u,vI w,vI z,vZ cP a0] false,.box [vZ aY a1,vZ (.slc aD) a2] false,.box [.own 4,vK .u64 e,vI f] false,.lst false gX a3 false,.lst false aY yi11.2 false]⟩)⟩
def mT:Ent:=⟨[0,7,18,20,123,128,130,139,140,141,142],[sPt 0,sPt 1,sPt 2,sI,sZ dN,sPt 3,sPt 4,sPt 0,sC (.own 5),sI,sC (.undef)],[.box [.cst (.own 6),.int .u64,lI] false,.box [lI,lI,lI,lI,lI,lI,lB] false,bV,.box [lI,lI,lI,lZ cP] false,.box [lZ aY,lZ (.slc aD)] false,.lst false gX false,.lst false aY false],fun⟨⟨_,_,_,a,b,_,_,_,_,c,_⟩,⟨⟨_,d,e,_⟩,⟨f,_,_,_,_,m,_⟩,⟨o,p,q,_⟩,⟨t,u,w,z,_⟩,⟨a0,a1,_⟩,a2,a3,_⟩⟩ k=>aN a d e f m o p q a3 (fun yi12=>k .ret ⟨[(12,vI yi12.1),(123,vZ dN b),(128,.ptr 0 0),(130,.ptr 1 0),(139,.ptr 2 0),(140,.own 3),(141,vI c),(142,.undef)],[.box [vI t,vI u,vI w,vZ cP z] false,.box [vZ aY a0,vZ (.slc aD) a1] false,.box [.own 4,vK .u64 d,vI e] false,.lst false gX a2 false,.lst false aY yi12.2 false]⟩)⟩
def mU:Ent:=⟨[20,123,128,130,139,140,141,142],[sI,sZ dN,sPt 0,sPt 1,sPt 2,sC (.own 3),sI,sC (.undef)],[.box [lI,lI,lI,lZ cP] false,.box [lZ aY,lZ (.slc aD)] false,.box [.cst (.own 4),.int .u64,lI] false,.lst false gX false,.lst false aY false],fun⟨⟨a,b,_,_,_,_,c,_⟩,⟨⟨d,e,f,g,_⟩,⟨i,j,_⟩,⟨_,l,m,_⟩,n,o,_⟩⟩ k=>aP (fun _=>k .ret ⟨[(12,vI a),(123,vZ dN b),(128,.ptr 0 0),(130,.ptr 1 0),(139,.ptr 2 0),(140,.own 3),(141,vI c),(142,.undef)],[.box [vI d,vI e,vI f,vZ cP g] false,.box [vZ aY i,vZ (.slc aD) j] false,.box [.own 4,vK .u64 l,vI m] false,.lst false gX n false,.lst false aY o false]⟩)⟩
def fK:Inl:=VM (dQ.cfg tt (some bG) false 0) 45 Tryz.f45 [(15,mY),(63,mX),(255,mZ),(511,mT),(1023,mU)] [12,123,128,130,139,140,141,142] [(250,[⟨17,none,true,aD⟩]),(251,[⟨17,none,true,aD⟩]),(1018,[⟨18,some 0,true,aD⟩,⟨18,some 2,true,aI⟩]),(1019,[⟨18,some 0,true,aD⟩,⟨18,some 2,true,aI⟩]),(2042,[⟨18,some 0,true,aD⟩,⟨18,some 2,true,aI⟩]),(2043,[⟨18,some 0,true,aD⟩,⟨18,some 2,true,aI⟩])]
theorem mJ:dH Tryz.prog fK:=xI (G:=(dQ.cfg tt (some bG) false 0)) Tryz.func45 dQ.ok (hI1 eY) ⟨fun _ _ hs ⟨⟨_,_,_,_,_,_,_,_,_,_,_,_,_,_⟩,⟨⟨_,_,_,_⟩,⟨_,_,_,_,_,_,_,_⟩,⟨_,_,_,_,_,_,_,_⟩,⟨_,_,_⟩,⟨_,_,_,_⟩,⟨_,_,_,_⟩,⟨_,_,_,_,_⟩,⟨_,_,_⟩,_,_,_⟩⟩ _ h=>aR hs h.it,fun _ _ hs ⟨⟨_,_,_,_,_,_,_,_,_,_,_,_,_,_⟩,⟨⟨_,_,_,_⟩,⟨_,_,_,_,_,_,_,_⟩,⟨_,_,_,_,_,_,_,_⟩,⟨_,_,_,_⟩,⟨_,_,_,_⟩,⟨_,_,_,_,_⟩,⟨_,_,_⟩,_,_,_⟩⟩ _ h=>aR hs h.it,fun _ _ hs ⟨⟨_,_,_,_,_,_,_,_,_,_,_,_⟩,⟨⟨_,_,_,_⟩,⟨_,_,_,_,_,_,_⟩,⟨_,_,_,_⟩,⟨_,_,_,_,_⟩,⟨_,_,_⟩,_,_,_⟩⟩ _ h=>aR hs h.it,fun _ _ hs ⟨⟨_,_,_,_,_,_,_,_,_,_,_⟩,⟨⟨_,_,_,_⟩,⟨_,_,_,_,_,_,_⟩,⟨_,_,_,_⟩,⟨_,_,_,_,_⟩,⟨_,_,_⟩,_,_,_⟩⟩ _ h=>aR hs h.it,fun _ _ hs ⟨⟨_,_,_,_,_,_,_,_⟩,⟨⟨_,_,_,_,_⟩,⟨_,_,_⟩,⟨_,_,_,_⟩,_,_,_⟩⟩ _ h=>aR hs h.it,trivial⟩
structure dF (x1:Int)(K0:Int->Prop):Prop where
 it:K0 (i64.wrap (x1-1))
structure eC (x2:Int)(K0:Unit->Prop)(K1:(List wO)->Prop):Prop where
 it:if (x2 != 0)=true then K1 ([]:List wO)else K0 ()
def iD (x0:List iL)(x5:List nR)(x6:List bL)(x7:List (List Int))(x8 x9:Int)(K0:(List wO)->Prop)(K1:((List wO)×Int×Int)->Prop)(s:Int×(List wO)×List bL)(nx:(Int×(List wO)×List bL)->Prop):Prop :=
 if (decide (1<=s.1))=true then ck (aG s.1 s.2.2.length) (if ((((s.2.2.getD ((s.1).toNat) ([],(0,[]))).1).length:Int)==0)=true then dF s.1 (fun y6=>nx (y6,s.2.1,s.2.2))else ck (aG (i64.wrap (s.1-1)) x5.length) (ck (aG (i64.wrap (s.1-1)) x0.length) (ck (aG (i64.wrap (s.1-1)) s.2.1.length) (ck (aG s.1 s.2.2.length) (ck (aG (i64.wrap (s.1-1)) x6.length) (if (((((x5.getD ((i64.wrap (s.1-1)).toNat) (0,(0,(0,(0,(0,(0,false))))))).1)==1)||(((x5.getD ((i64.wrap (s.1-1)).toNat) (0,(0,(0,(0,(0,(0,false))))))).1)==2))&&(!(((((((x5.getD ((i64.wrap (s.1-1)).toNat) (0,(0,(0,(0,(0,(0,false))))))).2).2).2).2).2).2)))=true then rY (x5.getD ((i64.wrap (s.1-1)).toNat) (0,(0,(0,(0,(0,(0,false))))))) (s.2.2.getD ((s.1).toNat) ([],(0,[]))) (x6.getD ((i64.wrap (s.1-1)).toNat) ([],(0,[]))) (fun ri6=>if (ri6.2 != 0)=true then eC ri6.2 (fun _=>dF s.1 (fun y8=>nx (y8,s.2.1,s.2.2))) (fun y9=>K1 (y9,s.1,ri6.2))else bE s.1 x8 x9 ((x5.getD ((i64.wrap (s.1-1)).toNat) (0,(0,(0,(0,(0,(0,false))))))).1) (((x5.getD ((i64.wrap (s.1-1)).toNat) (0,(0,(0,(0,(0,(0,false))))))).2).1) ((((x5.getD ((i64.wrap (s.1-1)).toNat) (0,(0,(0,(0,(0,(0,false))))))).2).2).1) (((((x5.getD ((i64.wrap (s.1-1)).toNat) (0,(0,(0,(0,(0,(0,false))))))).2).2).2).1) ((((((x5.getD ((i64.wrap (s.1-1)).toNat) (0,(0,(0,(0,(0,(0,false))))))).2).2).2).2).1) (((((((x5.getD ((i64.wrap (s.1-1)).toNat) (0,(0,(0,(0,(0,(0,false))))))).2).2).2).2).2).1) (((((((x5.getD ((i64.wrap (s.1-1)).toNat) (0,(0,(0,(0,(0,(0,false))))))).2).2).2).2).2).2) (((x0.getD ((i64.wrap (s.1-1)).toNat) (([],(0,[])),([],([],(0,[]))))).1).1) ((((x0.getD ((i64.wrap (s.1-1)).toNat) (([],(0,[])),([],([],(0,[]))))).1).2).1) ((((x0.getD ((i64.wrap (s.1-1)).toNat) (([],(0,[])),([],([],(0,[]))))).1).2).2) (((x0.getD ((i64.wrap (s.1-1)).toNat) (([],(0,[])),([],([],(0,[]))))).2).1) ((((x0.getD ((i64.wrap (s.1-1)).toNat) (([],(0,[])),([],([],(0,[]))))).2).2).1) (((((x0.getD ((i64.wrap (s.1-1)).toNat) (([],(0,[])),([],([],(0,[]))))).2).2).2).1) (((((x0.getD ((i64.wrap (s.1-1)).toNat) (([],(0,[])),([],([],(0,[]))))).2).2).2).2) x7 ((s.2.2.getD ((s.1).toNat) ([],(0,[]))).1) (((s.2.2.getD ((s.1).toNat) ([],(0,[]))).2).1) (((s.2.2.getD ((s.1).toNat) ([],(0,[]))).2).2) ((x6.getD ((i64.wrap (s.1-1)).toNat) ([],(0,[]))).1) (((x6.getD ((i64.wrap (s.1-1)).toNat) ([],(0,[]))).2).1) (((x6.getD ((i64.wrap (s.1-1)).toNat) ([],(0,[]))).2).2) s.2.2 (fun yi7=>eC yi7.1 (fun _=>dF s.1 (fun y11=>nx (y11,(s.2.1.set ((i64.wrap (s.1-1)).toNat) ri6.1),yi7.2))) (fun y12=>K1 (y12,s.1,yi7.1))))else bE s.1 x8 x9 ((x5.getD ((i64.wrap (s.1-1)).toNat) (0,(0,(0,(0,(0,(0,false))))))).1) (((x5.getD ((i64.wrap (s.1-1)).toNat) (0,(0,(0,(0,(0,(0,false))))))).2).1) ((((x5.getD ((i64.wrap (s.1-1)).toNat) (0,(0,(0,(0,(0,(0,false))))))).2).2).1) (((((x5.getD ((i64.wrap (s.1-1)).toNat) (0,(0,(0,(0,(0,(0,false))))))).2).2).2).1) ((((((x5.getD ((i64.wrap (s.1-1)).toNat) (0,(0,(0,(0,(0,(0,false))))))).2).2).2).2).1) (((((((x5.getD ((i64.wrap (s.1-1)).toNat) (0,(0,(0,(0,(0,(0,false))))))).2).2).2).2).2).1) (((((((x5.getD ((i64.wrap (s.1-1)).toNat) (0,(0,(0,(0,(0,(0,false))))))).2).2).2).2).2).2) (((x0.getD ((i64.wrap (s.1-1)).toNat) (([],(0,[])),([],([],(0,[]))))).1).1) ((((x0.getD ((i64.wrap (s.1-1)).toNat) (([],(0,[])),([],([],(0,[]))))).1).2).1) ((((x0.getD ((i64.wrap (s.1-1)).toNat) (([],(0,[])),([],([],(0,[]))))).1).2).2) (((x0.getD ((i64.wrap (s.1-1)).toNat) (([],(0,[])),([],([],(0,[]))))).2).1) ((((x0.getD ((i64.wrap (s.1-1)).toNat) (([],(0,[])),([],([],(0,[]))))).2).2).1) (((((x0.getD ((i64.wrap (s.1-1)).toNat) (([],(0,[])),([],([],(0,[]))))).2).2).2).1) (((((x0.getD ((i64.wrap (s.1-1)).toNat) (([],(0,[])),([],([],(0,[]))))).2).2).2).2) x7 ((s.2.2.getD ((s.1).toNat) ([],(0,[]))).1) (((s.2.2.getD ((s.1).toNat) ([],(0,[]))).2).1) (((s.2.2.getD ((s.1).toNat) ([],(0,[]))).2).2) ((x6.getD ((i64.wrap (s.1-1)).toNat) ([],(0,[]))).1) (((x6.getD ((i64.wrap (s.1-1)).toNat) ([],(0,[]))).2).1) (((x6.getD ((i64.wrap (s.1-1)).toNat) ([],(0,[]))).2).2) s.2.2 (fun yi8=>eC yi8.1 (fun _=>dF s.1 (fun y14=>nx (y14,s.2.1,yi8.2))) (fun y15=>K1 (y15,s.1,yi8.1)))))))))else K0 s.2.1
structure oD (x0:List iL)(x5:List nR)(x6:List bL)(x7:List (List Int))(x8 x9:Int)(K0:(List wO)->Prop)(K1:((List wO)×Int×Int)->Prop)(s:Int×(List wO)×List bL):Prop where
 it:Go.Mach.Loop (iD x0 x5 x6 x7 x8 x9 K0 K1) s
structure p7 (a0:Q4)(a1:List iL)(a2:aLT)(a3:bL)(a4 a5:Int)(Q:((List wO)×Int×Int)->Prop):Prop where
 it:m8 a5 (fun r1=>jn (fun v2=>if v2=true then Q (([]:List wO),0,1)else rS a0 a2 a3 (fun r5=>if (r5 != 0)=true then Q (([]:List wO),0,r5)else ck ((0:Int)<=(i64.wrap ((a0.2.length:Int)+1))/\((56:Nat):Int)*(i64.wrap ((a0.2.length:Int)+1))<=70368744177664) (ck (aG (a0.2.length:Int) (List.replicate (i64.wrap ((a0.2.length:Int)+1)).toNat ((([]:List Int),(0,([]:List Int))):bL)).length) (ck ((0:Int)<=(a0.2.length:Int)/\((120:Nat):Int)*(a0.2.length:Int)<=70368744177664) (oD a1 a0.2 a2.1 a2.2 a4 a5 (fun y16=>Q (y16,0,0)) (fun y17=>Q (y17.1,y17.2.1,y17.2.2)) ((a0.2.length:Int),List.replicate ((a0.2.length:Int)).toNat ((false,((([]:List Int),(0,([]:List Int))),(([]:List Int),(0,([]:List Int))))):wO),(List.replicate (i64.wrap ((a0.2.length:Int)+1)).toNat ((([]:List Int),(0,([]:List Int))):bL)).set (((a0.2.length:Int)).toNat) a3)))))) (fun J3=>if (!r1)=true then J3 true else pI a0 a1 (fun r4=>J3 (!r4))))
def ER:Ent:=⟨[1,6,8,17,18,19],[sZ dN,sPt 0,sPt 1,sPt 2,sC (.own 3),sI],[.box [lI,lI,lI,lZ cP] false,.box [lZ aY,lZ (.slc aD)] false,.box [.cst (.own 4),.int .u64,lI] false,.lst false gX false,.lst false aY false],fun⟨⟨a,_,_,_,_,b,_⟩,⟨⟨_,_,_,f,_⟩,⟨g,i,_⟩,⟨_,j,l,_⟩,m,n,_⟩⟩ k=>oD a f g i j l (fun y18=>k (.exit 0) ⟨[(18,.own 0)],[.lst false gX y18 false]⟩) (fun y19=>k .ret ⟨[(12,vZ gX y19.1),(13,vI y19.2.1),(14,vI y19.2.2)],[]⟩) (b,m,n)⟩
def EW:Ent:=⟨[1,6,8,17,18,19],[sZ dN,sPt 0,sPt 1,sPt 2,sC (.own 3),sI],[.box [lI,lI,lI,lZ cP] false,.box [lZ aY,lZ (.slc aD)] false,.box [.cst (.own 4),.int .u64,lI] false,.lst false gX false,.lst false aY false],fun⟨⟨a,_,_,_,_,b,_⟩,⟨⟨c,d,e,f,_⟩,⟨g,i,_⟩,⟨_,j,l,_⟩,m,n,_⟩⟩ k=>dF b (fun y20=>k .normal ⟨[(1,vZ dN a),(6,.ptr 0 0),(8,.ptr 1 0),(17,.ptr 2 0),(18,.own 3),(19,vI y20)],[.box [vI c,vI d,vI e,vZ cP f] false,.box [vZ aY g,vZ (.slc aD) i] false,.box [.own 4,vK .u64 j,vI l] false,.lst false gX m false,.lst false aY n false]⟩)⟩
def FO:Ent:=⟨[1,6,8,17,18,19,20],[sZ dN,sPt 0,sPt 1,sPt 2,sC (.own 3),sI,sI],[.box [lI,lI,lI,lZ cP] false,.box [lZ aY,lZ (.slc aD)] false,.box [.cst (.own 4),.int .u64,lI] false,.lst false gX false,.lst false aY false],fun⟨⟨a,_,_,_,_,b,c,_⟩,⟨⟨d,e,f,g,_⟩,⟨i,j,_⟩,⟨_,l,m,_⟩,n,o,_⟩⟩ k=>eC c (fun _=>k .normal ⟨[(1,vZ dN a),(6,.ptr 0 0),(8,.ptr 1 0),(17,.ptr 2 0),(18,.own 3),(19,vI b)],[.box [vI d,vI e,vI f,vZ cP g] false,.box [vZ aY i,vZ (.slc aD) j] false,.box [.own 4,vK .u64 l,vI m] false,.lst false gX n false,.lst false aY o false]⟩) (fun y22=>k .ret ⟨[(12,vZ gX y22),(13,vI b),(14,vI c)],[]⟩)⟩
def F1:=dQ.putX tt 17 Tryz.func17 [12,13,14] [(53,[⟨12,none,true,gX⟩]),(237,[⟨12,none,true,gX⟩]),(1023,[⟨12,none,true,gX⟩]),(1045661,[⟨12,none,true,gX⟩])] [(2042,ER),(16339,EW),(130707,FO)] [.agg [lI,lI,lI,lZ cP],sZ dN,.agg [lZ aY,lZ (.slc aD)],.agg cO,.lf (.int .u64),sI] [.f] [(false,(.slc gX)),(false,aD),(false,aD)] (fun x=>p7 ((x.1.1,(x.1.2.1,x.1.2.2.1)),x.1.2.2.2.1) x.2.1 (x.2.2.1.1,x.2.2.1.2.1) (x.2.2.2.1.1,(x.2.2.2.1.2.1,x.2.2.2.1.2.2.1)) x.2.2.2.2.1 x.2.2.2.2.2.1) [] (some fK) true 0 (hI1 mJ) ⟨fun _ _ hs ⟨⟨a,_,_,_,_,b,_⟩,⟨⟨c,d,e,f,_⟩,⟨g,i,_⟩,⟨_,j,l,_⟩,m,n,_⟩⟩ _ h=>aH hs (fun y=>⟨⟨a,(),(),(),(),y.1,()⟩,⟨⟨c,d,e,f,()⟩,⟨g,i,()⟩,⟨(),j,l,()⟩,y.2.1,y.2.2,()⟩⟩) (b,m,n) h.it,fun _ _ hs ⟨⟨_,_,_,_,_,_,_⟩,⟨⟨_,_,_,_,_⟩,⟨_,_,_⟩,⟨_,_,_,_⟩,_,_,_⟩⟩ _ h=>aR hs h.it,fun _ _ hs ⟨⟨_,_,_,_,_,_,_,_⟩,⟨⟨_,_,_,_,_⟩,⟨_,_,_⟩,⟨_,_,_,_⟩,_,_,_⟩⟩ _ h=>aR hs h.it,trivial⟩ fun _ _ h=>⟨_,h.it,by kernel_rfl⟩
def jH (x0:Int)(x4 x7:List Int)(K0 K1:Unit->Prop)(s:Int)(nx:Int->Prop):Prop :=
 if (decide (s<x0))=true then ck (aG s x4.length) (ck (aG s x7.length) (if ((x4.getD ((s).toNat) 0) != (x7.getD ((s).toNat) 0))=true then K1 ()else nx (i64.wrap (s+1))))else K0 ()
structure wW (x0:Int)(x4 x7:List Int)(K0 K1:Unit->Prop)(s:Int):Prop where
 it:Go.Mach.Loop (jH x0 x4 x7 K0 K1) s
structure oI (a0 a1:pQ)(Q:Bool->Prop):Prop where
 it:bI a0.1 a1.1 (fun r1=>if (((!r1)||(a0.2.1 != a1.2.1))||((a0.2.2.length:Int) != (a1.2.2.length:Int)))=true then Q false else wW (a0.2.2.length:Int) a0.2.2 a1.2.2 (fun _=>Q true) (fun _=>Q false) 0)
def HO:Ent:=⟨[2,3,30,31],[sPt 0,sPt 1,sI,sI],[.box YF false,.box YF false],fun⟨⟨_,_,a,b,_⟩,⟨⟨_,_,e,_⟩,⟨_,_,i,_⟩,_⟩⟩ k=>wW a e i (fun _=>k (.exit 0) ⟨[],[]⟩) (fun _=>k .ret ⟨[(4,vB false)],[]⟩) b⟩
def IW:=F1.put tt 21 Tryz.func21 [4] [] [(58,HO)] [.agg YF,.agg YF] [] [(false,.bool)] (fun x=>oI (x.1.1,(x.1.2.1,x.1.2.2.1)) (x.2.1.1,(x.2.1.2.1,x.2.1.2.2.1))) ⟨fun _ _ hs ⟨⟨_,_,a,b,_⟩,⟨⟨c,d,e,_⟩,⟨f,g,i,_⟩,_⟩⟩ _ h=>aH hs (fun y=>⟨⟨(),(),a,y,()⟩,⟨⟨c,d,e,()⟩,⟨f,g,i,()⟩,()⟩⟩) b h.it,trivial⟩ fun _ _ h=>⟨_,h.it,by kernel_rfl⟩
def kV (x0 x1:List wO)(x2:Int)(K0 K1:Unit->Prop)(s:Int)(nx:Int->Prop):Prop :=
 if (decide (s<x2))=true then ck (aG s x0.length) (ck (aG s x1.length) (jn (fun v1=>jn (fun v4=>if v4=true then K1 ()else nx (i64.wrap (s+1))) (fun J5=>if v1=true then J5 true else ck (aG s x0.length) (ck (aG s x1.length) (oI (((x0.getD ((s).toNat) (false,(([],(0,[])),([],(0,[]))))).2).2) (((x1.getD ((s).toNat) (false,(([],(0,[])),([],(0,[]))))).2).2) (fun r6=>J5 (!r6)))))) (fun J2=>if (((x0.getD ((s).toNat) (false,(([],(0,[])),([],(0,[]))))).1) != ((x1.getD ((s).toNat) (false,(([],(0,[])),([],(0,[]))))).1))=true then J2 true else ck (aG s x0.length) (ck (aG s x1.length) (oI (((x0.getD ((s).toNat) (false,(([],(0,[])),([],(0,[]))))).2).1) (((x1.getD ((s).toNat) (false,(([],(0,[])),([],(0,[]))))).2).1) (fun r3=>J2 (!r3)))))))else K0 ()
structure zR (x0 x1:List wO)(x2:Int)(K0 K1:Unit->Prop)(s:Int):Prop where
 it:Go.Mach.Loop (kV x0 x1 x2 K0 K1) s
structure vN (a0 a1:List wO)(Q:Bool->Prop):Prop where
 it:if ((a0.length:Int) != (a1.length:Int))=true then Q false else zR a0 a1 (a0.length:Int) (fun _=>Q true) (fun _=>Q false) 0
def LS:Ent:=⟨[0,1,12,13],[sZ gX,sZ gX,sI,sI],[],fun⟨⟨a,b,c,d,_⟩,_⟩ k=>zR a b c (fun _=>k (.exit 0) ⟨[],[]⟩) (fun _=>k .ret ⟨[(4,vB false)],[]⟩) d⟩
def N4:=IW.put tt 18 Tryz.func18 [4] [] [(58,LS)] [sZ gX,sZ gX] [] [(false,.bool)] (fun x=>vN x.1 x.2.1) ⟨fun _ _ hs ⟨⟨a,b,c,d,_⟩,_⟩ _ h=>aH hs (fun y=>⟨⟨a,b,c,y,()⟩,()⟩) d h.it,trivial⟩ fun _ _ h=>⟨_,h.it,by kernel_rfl⟩
def eE (x1:List (List Int))(x3:List bL)(x4:Int)(K0:Unit->Prop)(K1:Bool->Prop)(s:Int)(nx:Int->Prop):Prop :=
 if (decide (s<x4))=true then ck (aG s x3.length) (jn (fun v2=>if v2=true then iN (fun r6=>K1 r6)else nx (i64.wrap (s+1))) (fun J3=>if (decide (300<((((x3.getD ((s).toNat) ([],(0,[]))).2).2).length:Int)))=true then J3 true else jn (fun v4=>J3 v4) (fun J5=>if (decide (s<(x1.length:Int)))=true then ck (aG s x1.length) (J5 (decide (300<((x1.getD ((s).toNat) []).length:Int))))else J5 false)))else K0 ()
structure oN (x1:List (List Int))(x3:List bL)(x4:Int)(K0:Unit->Prop)(K1:Bool->Prop)(s:Int):Prop where
 it:Go.Mach.Loop (eE x1 x3 x4 K0 K1) s
structure oM (x0:List wO)(x1 x2:Int)(x3:List wO)(x4 x5:Int)(K0:Bool->Prop):Prop where
 it:vN x0 x3 (fun r12=>jn (fun v13=>K0 v13) (fun J14=>if ((r12&&(x1==x4))&&(x2==x5))=true then iN (fun r15=>J14 r15)else J14 false))
structure kK (a0:aO8)(a1:List bL)(a2:List (List Int))(a3:bL)(a4:Int)(Q:Bool->Prop):Prop where
 it:if ((((decide (12<(a0.1.2.length:Int)))||(decide (14<(a1.length:Int))))||(decide (300<(a3.2.2.length:Int))))||(decide (14<(a2.length:Int))))=true then iN (fun r1=>Q r1)else oN a2 a1 (a1.length:Int) (fun _=>wH a0 (fun r8=>if (r8.2.2 != 0)=true then iN (fun r9=>Q r9)else D6 a0.1 r8.1 (a1,a2) a3 1 a4 (fun r10=>p7 a0.1 r8.1 (a1,a2) a3 1 a4 (fun r11=>oM r10.1 r10.2.1 r10.2.2 r11.1 r11.2.1 r11.2.2 (fun y16=>Q y16))))) (fun y17=>Q y17) 0
def yO:Ent:=⟨[1,2,4,5,8,44,45,46],[sZ aY,sZ (.slc aD),sI,sPt 0,sPt 1,sZ aY,sI,sI],[.box [lI,lI,lI,lZ cP,.int .u64,lZ aI,lI,lZ aI,lI] false,bV],fun⟨⟨a,b,c,_,_,d,e,f,_⟩,⟨⟨g,i,j,l,m,n,o,p,q,_⟩,⟨t,u,w,_⟩,_⟩⟩ k=>oN b d e (fun _=>k (.exit 0) ⟨[(1,vZ aY a),(2,vZ (.slc aD) b),(4,vI c),(5,.ptr 0 0),(8,.ptr 1 0)],[.box [vI g,vI i,vI j,vZ cP l,vK .u64 m,vZ aI n,vI o,vZ aI p,vI q] false,.box [vZ aD t,vI u,vZ aI w] false]⟩) (fun y19=>k .ret ⟨[(10,vB y19)],[]⟩) f⟩
def yN:Ent:=⟨[16,17,18,19,20,21],[sZ gX,sI,sI,sZ gX,sI,sI],[],fun⟨⟨a,b,c,d,e,f,_⟩,_⟩ k=>oM a b c d e f (fun y20=>k .ret ⟨[(10,vB y20)],[]⟩)⟩
def jB:List Sh:=[.agg [lI,lI,lI,lZ cP,.int .u64,lZ aI,lI,lZ aI,lI],sZ aY,sZ (.slc aD),.agg cO,sI]
theorem xV (x:C7 jB)(Q:QT)(h:kK (((x.1.1,(x.1.2.1,x.1.2.2.1)),x.1.2.2.2.1),(x.1.2.2.2.2.1,(x.1.2.2.2.2.2.1,(x.1.2.2.2.2.2.2.1,(x.1.2.2.2.2.2.2.2.1,x.1.2.2.2.2.2.2.2.2.1))))) x.2.1 x.2.2.1 (x.2.2.2.1.1,(x.2.2.2.1.2.1,x.2.2.2.1.2.2.1)) x.2.2.2.2.1 fun r=>Q (pE [(false,.bool)] [] (r,()))):sD Tryz.prog 5 (DD jB x) Q:=aHc N4 (tt:=tt) (hv:=false) (un:=0) (res:=[10]) (cos:=[]) (l:=[(58,yO),(255,yN)]) (al:=[]) (sh:=jB) (rt:=[(false,.bool)]) (D:=fun x=>kK (((x.1.1,(x.1.2.1,x.1.2.2.1)),x.1.2.2.2.1),(x.1.2.2.2.2.1,(x.1.2.2.2.2.2.1,(x.1.2.2.2.2.2.2.1,(x.1.2.2.2.2.2.2.2.1,x.1.2.2.2.2.2.2.2.2.1))))) x.2.1 x.2.2.1 (x.2.2.2.1.1,(x.2.2.2.1.2.1,x.2.2.2.1.2.2.1)) x.2.2.2.2.1) Tryz.func5 hI0 ⟨fun _ _ hs ⟨⟨a,b,c,_,_,d,e,f,_⟩,⟨⟨g,i,j,l,m,n,o,p,q,_⟩,⟨t,u,w,_⟩,_⟩⟩ _ h=>aH hs (fun y=>⟨⟨a,b,c,(),(),d,e,y,()⟩,⟨⟨g,i,j,l,m,n,o,p,q,()⟩,⟨t,u,w,()⟩,()⟩⟩) f h.it,fun _ _ hs ⟨⟨_,_,_,_,_,_,_⟩,_⟩ _ h=>aR hs h.it,trivial⟩ (fun _ _ h=>⟨_,h.it,by kernel_rfl⟩) (by kernel_rfl) (by kernel_rfl) (by kernel_rfl) x Q h
end
end Go.Proofs.YtcfpfefadlnmcaaGreat

namespace Go.Mach
open IntKind (i8 i16 i32 i64 u8 u16 u32 u64)
set_option linter.unusedVariables false
set_option linter.unusedSimpArgs false
theorem U8 (a b:Int):i64.wrap (i64.wrap a+b)=i64.wrap (a+b):=by
 simp only[IntKind.wrap,IntKind.bits,IntKind.signed];simp;omega
theorem JM (a b:Int):i32.wrap (i32.wrap a+b)=i32.wrap (a+b):=by
 simp only[IntKind.wrap,IntKind.bits,IntKind.signed];simp;omega
theorem EE (a b:Int):i32.wrap (a+i32.wrap b)=i32.wrap (a+b):=by
 simp only[IntKind.wrap,IntKind.bits,IntKind.signed];simp;omega
theorem aET (a:Int):i32.wrap (i64.wrap a)=i32.wrap a:=by
 simp only[IntKind.wrap,IntKind.bits,IntKind.signed];simp;omega
def bC (g:Nat->Int):Nat->Int
 | 0=>0
 | n+1=>bC g n+g n
theorem BI {f g:Nat->Int}{n:Nat}(h:∀ i,i<n->f i=g i):bC f n=bC g n:=by
 induction n with
 | zero=>rfl
 | succ n ih=>simp only[bC];rw[ih fun i hi=>h i (by omega),h n (by omega)]
theorem aB5 {f:Nat->Int}{n:Nat}(h:∀ i,i<n->f i=0):bC f n=0:=by
 induction n with
 | zero=>rfl
 | succ n ih=>simp only[bC];rw[ih fun i hi=>h i (by omega),h n (by omega)];rfl
theorem aIS (f g:Nat->Int)(n:Nat):bC (fun i=>f i+g i) n=bC f n+bC g n:=by
 induction n with
 | zero=>rfl
 | succ n ih=>simp only[bC];rw[ih];omega
theorem aFr (g:Nat->Int)(B:Int)(n:Nat)(h:∀ i,i<n -> -B<=g i/\g i<=B) : -(B*n)<=bC g n/\bC g n<=B*n:=by
 induction n with
 | zero=>simp[bC]
 | succ n ih =>
   have h1:=ih fun i hi=>h i (by omega)
   have h2:=h n (by omega)
   have e:B*((n+1:Nat):Int)=B*n+B:=by rw[Int.natCast_add,Int.mul_add];simp
   simp only[bC]
   omega
theorem aIw {f:Nat->Int}{n k:Nat}(hk:k<n)(h:∀ i,i<n->i≠k->f i=0):bC f n=f k:=by
 induction n with
 | zero=>omega
 | succ n ih =>
   simp only[bC]
   by_cases e:k=n
   ·subst e;rw[aB5 fun i hi=>h i (by omega) (by omega)];omega
   ·rw[ih (by omega) fun i hi=>h i (by omega),h n (by omega) (by omega)];omega
theorem aDQ (f:Nat->Int)(n m:Nat):bC f (n+m)=bC f n+bC (fun i=>f (n+i)) m:=by
 induction m with
 | zero=>simp[bC]
 | succ m ih=>rw[<- yX];simp only[bC];rw[ih];omega
theorem aAf (f:Nat->Int)(n m:Nat):bC (fun i=>bC (fun j=>f (i*m+j)) m) n=bC f (n*m):=by
 induction n with
 | zero=>simp[bC]
 | succ n ih =>
   have e:(n+1)*m=n*m+m:=by rw[eV,jN]
   exact(congrArg (· + bC (fun j=>f (n*m+j)) m) ih).trans (by rw[e,aDQ])
def AY {α:Type}(l:List α)(f:α->Int):Int:=(l.map f).sum
theorem VN {α:Type}(a:α)(l:List α)(f:α->Int):AY (a::l) f=f a+AY l f:=by simp[AY]
theorem aGn {α:Type}(l:List α)(f:α->Nat->Int)(n:Nat):AY l (fun a=>bC (f a) n)=bC (fun i=>AY l (fun a=>f a i)) n:=by
 induction l with
 | nil=>exact(aB5 fun _ _=>rfl).symm
 | cons a l ih=>rw[VN,ih,<- aIS];exact BI fun i _=>(VN a l (fun a=>f a i)).symm
theorem EB {α:Type}(l:List α)(f:α->Int)(d:α):AY l f=bC (fun i=>f (l.getD i d)) l.length:=by
 induction l with
 | nil=>rfl
 | cons a l ih =>
   rw[VN,ih,SK,SI,aDQ]
   simp only[bC,List.getD_cons_zero,Int.zero_add]
   congr 1
   exact BI fun i _=>by rw[SI,List.getD_cons_succ]
def tab (n:Nat)(f:Nat->Int):List Int:=(List.range n).map f
@[simp] theorem Y3 (n:Nat) (f:Nat->Int):(tab n f).length=n:=by simp[tab]
theorem FL {n i:Nat}(f:Nat->Int)(h:i<n):(tab n f).getD i 0=f i:=by
 unfold tab
 rw[aW,mO,List.getElem?_range h];rfl
theorem aAo {l:List Int}{n:Nat}{f:Nat->Int}(hl:l.length=n)(h:∀ i,i<n->l.getD i 0=f i):l=tab n f:=by
 refine aA6 (by simp[hl]) fun i h1 h2 => ?_
 have:=h i (by omega)
 rw[aW,aQ h1]at this
 simp only[Option.getD_some]at this
 rw[this]
 simp[tab]
theorem QC {n:Nat}{f g:Nat->Int}(h:∀ i,i<n->f i=g i):tab n f=tab n g:=by
 refine aAo (by simp) fun i hi => ?_
 rw[FL _ hi,h i hi]
theorem aHq {l m:List Int}(hl:l.length=m.length)(h:∀ i,i<l.length->l.getD i 0=m.getD i 0):l=m:=by
 refine aA6 hl fun i h1 h2 => ?_
 have:=h i h1
 rwa [aW,aQ h1,aW,aQ h2]at this
theorem ZV {α:Type}{l:List α}{i j:Nat}{v d:α}(hi:i<l.length):(l.set i v).getD j d=if i=j then v else l.getD j d:=by
 rw[aW,List.getElem?_set]
 by_cases h:i=j
 ·subst h;rw[aB rfl,aB rfl,aB hi];rfl
 ·rw[aA h,aA h,aW]
theorem O6 {l:List Int}{i:Nat}(h:i<l.length):l.getD i 0∈l:=by
 rw[aW,aQ h];exact fZ h
theorem QL {n i:Nat}{v:Int}(h:i<n):(List.replicate n v).getD i 0=v:=by
 rw[aW,List.getElem?_replicate,aB h];rfl
theorem OJ {α:Type}{l:List α}{p:α->Bool}{i:Nat}{d:α}(hi:i<l.length):(l.take (i+1)).all p=((l.take i).all p&&p (l.getD i d)):=by
 rw[WT,List.all_append,aW,aQ hi]
 simp
theorem aA3 {α:Type}{l:List α}{p:α->Bool}{i:Nat}{d:α}(hi:i<l.length)(h:p (l.getD i d)=false):l.all p=false:=by
 rw[VR]
 refine⟨l[i],fZ hi,?_⟩
 rw[aW,aQ hi]at h
 simp only[Option.getD_some]at h
 rw[h];simp
theorem fM {r R n i:Nat}(h1:r<R)(h2:i<n):r*n+i<R*n:=by
 have:(r+1)*n<=R*n:=fP n h1
 rw[eV,jN]at this
 omega
theorem FF {r n i:Nat}(h:i<n):(r*n+i) / n=r:=by
 rw[Nat.mul_comm,Nat.mul_add_div (by omega),Nat.div_eq_of_lt h];rfl
theorem AE {r n i:Nat}(h:i<n):(r*n+i)%n=i:=by
 rw[Nat.mul_comm,Nat.mul_add_mod,Nat.mod_eq_of_lt h]
theorem aDe {r n i r' i':Nat}(h:i<n)(h':i'<n)(e:r*n+i=r'*n+i'):r=r'/\i=i':=by
 have h1:=FF (r:=r) h
 have h2:=AE (r:=r) h
 rw[e]at h1 h2
 rw[FF h']at h1
 rw[AE h']at h2
 exact⟨h1.symm,h2.symm⟩
def ix4 (O P Q m o p q:Nat):Nat:=((m*O+o)*P+p)*Q+q
theorem EK {n O P Q m o p q:Nat}(hm:m<n)(ho:o<O)(hp:p<P)(hq:q<Q):ix4 O P Q m o p q<n*O*P*Q:=fM (fM (fM hm ho) hp) hq
theorem aDn {O P Q m o p q m' o' p' q':Nat}(ho:o<O)(hp:p<P)(hq:q<Q)(ho':o'<O)(hp':p'<P)(hq':q'<Q)(e:ix4 O P Q m o p q=ix4 O P Q m' o' p' q'):m=m'/\o=o'/\p=p'/\q=q':=by
 obtain⟨e1,e2⟩:=aDe hq hq' e
 obtain⟨e3,e4⟩:=aDe hp hp' e1
 obtain⟨e5,e6⟩:=aDe ho ho' e3
 exact⟨e5,e6,e4,e2⟩
theorem PD {n k t:Nat}(h:t<n*k):t / k<n/\t%k<k/\t=t / k*k+t%k:=by
 have hk:0<k:=by
  rcases Nat.eq_zero_or_pos k with e|e
  ·rw[e,Nat.mul_zero]at h;omega
  ·exact e
 refine⟨by rw[Nat.div_lt_iff_lt_mul hk];exact h,Nat.mod_lt _ hk,?_⟩
 rw[Nat.mul_comm];exact(Nat.div_add_mod t k).symm
theorem VB {n O P Q t:Nat}(h:t<n*O*P*Q):∃ m o p q,m<n/\o<O/\p<P/\q<Q/\t=ix4 O P Q m o p q:=by
 obtain⟨a1,a2,a3⟩:=PD h
 obtain⟨b1,b2,b3⟩:=PD a1
 obtain⟨c1,c2,c3⟩:=PD b1
 exact⟨_,_,_,_,c1,c2,b2,a2,by unfold ix4;rw[<- c3,<- b3,<- a3]⟩
def VZ (n O P Q:Nat)(cell:Nat->Nat->Nat->Nat->Int):List Int:=tab (n*O*P*Q) fun t=>cell (t / Q / P / O) (t / Q / P%O) (t / Q%P) (t%Q)
theorem TK (n O P Q:Nat)(cell:Nat->Nat->Nat->Nat->Int):(VZ n O P Q cell).length=n*O*P*Q:=by simp[VZ]
theorem UL {n O P Q m o p q:Nat}{cell:Nat->Nat->Nat->Nat->Int}(hm:m<n)(ho:o<O)(hp:p<P)(hq:q<Q):(VZ n O P Q cell).getD (ix4 O P Q m o p q) 0=cell m o p q:=by
 unfold VZ
 rw[FL _ (EK hm ho hp hq)]
 unfold ix4
 rw[FF hq,FF hp,FF ho,AE hq,AE hp,AE ho]
structure Fill (n O P Q:Nat)(cell:Nat->Nat->Nat->Nat->Int)(C:Nat->Nat->Nat->Nat->Prop)(L:List Int):Prop where
 len:L.length=n*O*P*Q
 tell:∀ m o p q,m<n->o<O->p<P->q<Q->C m o p q->L.getD (ix4 O P Q m o p q) 0=cell m o p q
theorem Fill.mono {n O P Q:Nat}{cell:Nat->Nat->Nat->Nat->Int}{C C':Nat->Nat->Nat->Nat->Prop}{L:List Int}(h:Fill n O P Q cell C L)(hc:∀ m o p q,m<n->o<O->p<P->q<Q->C' m o p q->C m o p q):Fill n O P Q cell C' L :=
 ⟨h.len,fun m o p q hm ho hp hq hC=>h.tell m o p q hm ho hp hq (hc m o p q hm ho hp hq hC)⟩
theorem Fill.set {n O P Q:Nat}{cell:Nat->Nat->Nat->Nat->Int}{C C':Nat->Nat->Nat->Nat->Prop}{L:List Int}(h:Fill n O P Q cell C L){m0 o0 p0 q0:Nat}(hm:m0<n)(ho:o0<O)(hp:p0<P)(hq:q0<Q)
 {v:Int} (hv:v=cell m0 o0 p0 q0) (hc:∀ m o p q,m<n->o<O->p<P->q<Q->C' m o p q->C m o p q\/(m=m0/\o=o0/\p=p0/\q=q0)):Fill n O P Q cell C' (L.set (ix4 O P Q m0 o0 p0 q0) v):=by
 have hlt:=EK hm ho hp hq
 refine⟨by rw[ET];exact h.len,fun m o p q hm' ho' hp' hq' hC => ?_⟩
 rw[ZV (by rw[h.len];exact hlt)]
 by_cases e:ix4 O P Q m0 o0 p0 q0=ix4 O P Q m o p q
 ·rw[aB e]
  obtain⟨e1,e2,e3,e4⟩:=aDn ho hp hq ho' hp' hq' e
  rw[hv,e1,e2,e3,e4]
 ·rw[aA e]
  rcases hc m o p q hm' ho' hp' hq' hC with g|⟨rfl,rfl,rfl,rfl⟩
  ·exact h.tell m o p q hm' ho' hp' hq' g
  ·exact absurd rfl e
theorem QQ {n O P Q:Nat}{L M:List Int}(hl:L.length=n*O*P*Q)(hm:M.length=n*O*P*Q)(h:∀ m o p q,m<n->o<O->p<P->q<Q->L.getD (ix4 O P Q m o p q) 0=M.getD (ix4 O P Q m o p q) 0):L=M:=by
 refine aHq (by omega) fun t ht => ?_
 obtain⟨m,o,p,q,h1,h2,h3,h4,rfl⟩:=VB (hl▸ht)
 exact h m o p q h1 h2 h3 h4
theorem Fill.all {n O P Q:Nat}{cell:Nat->Nat->Nat->Nat->Int}{C:Nat->Nat->Nat->Nat->Prop}{L:List Int}(h:Fill n O P Q cell C L)(hC:∀ m o p q,m<n->o<O->p<P->q<Q->C m o p q):L=VZ n O P Q cell :=
 QQ h.len (TK _ _ _ _ _) fun m o p q hm ho hp hq=>by rw[UL hm ho hp hq,h.tell m o p q hm ho hp hq (hC m o p q hm ho hp hq)]
theorem aHK {n O P Q:Nat}{f g:Nat->Nat->Nat->Nat->Int}(h:∀ m o p q,m<n->o<O->p<P->q<Q->f m o p q=g m o p q):VZ n O P Q f=VZ n O P Q g :=
 QQ (TK _ _ _ _ _) (TK _ _ _ _ _) fun m o p q hm ho hp hq=>by rw[UL hm ho hp hq,UL hm ho hp hq,h m o p q hm ho hp hq]
theorem Loop.rangeI {S:Type}{B:S->(S->Prop)->Prop}(n:Nat)(I:Nat->S->Prop){s0:S}(h0:I 0 s0)(step:∀ i,i<n->∀ s,I i s->∀ X,(∀ s',I (i+1) s'->X s')->B s X)(last:∀ s,I n s->∀ X,B s X):Loop B s0:=by
 refine Loop.inv (n:=n) (fun m s=>∃ i,i+m=n/\I i s) ⟨0,by omega,h0⟩ ?_
 rintro m s X ⟨i,hi,hI⟩ hX
 by_cases h:i<n
 ·exact step i h s hI X fun s' hI'=>hX (m-1) s' (by omega) ⟨i+1,by omega,hI'⟩
 ·have:i=n:=by omega
  subst this
  exact last s hI X
theorem Loop.all {α:Type}{B:Int->(Int->Prop)->Prop}(l:List α)(p:α->Bool){K0 K1:Prop}
 (step:∀ i (h:i<l.length) X,(p l[i]=true->X ((i+1:Nat):Int))->(p l[i]=false->K1)->B (i:Int) X) (last:K0->∀ X,B (l.length:Int) X)
 (h:if l.all p=true then K0 else K1):Loop B 0:=by
 refine Loop.range (B:=B) (f:=fun i:Nat=>(i:Int)) l.length (fun i=>∀ j (hj:j<i) (hl:j<l.length),p l[j]=true) (fun j hj=>absurd hj (by omega)) ?_ ?_
 ·intro i hi hI X hX
  refine step i hi X (fun hp=>hX fun j hj hl => ?_) (fun hp => ?_)
  ·by_cases e:j=i
   ·subst e;exact hp
   ·exact hI j (by omega) hl
  ·have : ¬ l.all p=true:=by
    rw[jF]
    intro ha
    have:=ha _ (fZ hi)
    rw[hp]at this;cases this
   rwa [aA this]at h
 ·intro hI X
  refine last ?_ X
  have:l.all p=true:=by
   rw[jF]
   intro a ha
   obtain⟨j,hj,rfl⟩:=List.getElem_of_mem ha
   exact hI j hj hj
  rwa [aB this]at h
end Go.Mach

namespace Go.Fl
open IntKind (i8 i16 i32 i64 u8 u16 u32 u64)
open Ieee
set_option maxRecDepth 100000
set_option linter.unusedVariables false
set_option linter.unusedSimpArgs false
def sg (s:Bool)(m:Nat):Int:=if s=true then -(m:Int)else(m:Int)
def xW (d:Datum)(n:Int):Prop:=∃ s m e,d = .number s m e/\sg s m*2 ^ e.toNat=n*2 ^ (-e).toNat
def DR (x:Nat)(n:Int):Prop:=xW (double.read x) n
theorem pw (a:Nat):((2 ^ a:Nat):Int)=2 ^ a:=by rw[Int.natCast_pow];rfl
theorem aNj (s:Bool)(m:Nat):(sg s m).natAbs=m:=by
 unfold sg;split <;> omega
theorem aCg (n:Int):sg (decide (n<0)) n.natAbs=n:=by
 unfold sg
 by_cases h:n<0
 ·rw[decide_eq_true h,if_pos rfl];omega
 ·rw[decide_eq_false h,if_neg (by simp)];omega
theorem ZQ {s:Bool}{m:Nat}{e n:Int}(h:sg s m*2 ^ e.toNat=n*2 ^ (-e).toNat):m*2 ^ e.toNat=n.natAbs*2 ^ (-e).toNat:=by
 have:=congrArg Int.natAbs h
 rw[Int.natAbs_mul,Int.natAbs_mul,aNj,<- pw,<- pw,Int.natAbs_natCast,Int.natAbs_natCast]at this
 exact this
theorem aBR (m p:Nat)(hm:m≠0):(m*2 ^ p).log2=m.log2+p:=by
 have hp:0<2 ^ p:=Nat.pow_pos (by omega)
 rw[Nat.log2_eq_iff (Nat.mul_ne_zero hm (by omega))]
 have h1:=Nat.log2_self_le hm
 have h2 := @Nat.lt_log2_self m
 constructor
 ·rw[Nat.pow_add];exact Nat.mul_le_mul_right _ h1
 ·rw[show m.log2+p+1=(m.log2+1)+p by omega,Nat.pow_add];exact Nat.mul_lt_mul_of_pos_right h2 hp
theorem aI4 {neg:Bool}{K M:Nat}(hK:K<=52)(h1:2 ^ 52<=M)(h2:M<2 ^ 53):double.read (double.word neg ((K+1022)*2 ^ 52+M)) = .number neg M ((K:Int)-52):=by
 have hr1:(K+1022)*2 ^ 52+M<2 ^ 63:=by omega
 have e1:double.word neg ((K+1022)*2 ^ 52+M)%double.signWeight=(K+1022)*2 ^ 52+M:=by
  unfold Format.word
  show _%2 ^ 63=_
  cases neg with
  | true=>rw[if_pos rfl];show(2 ^ 63+_)%2 ^ 63=_;omega
  | false=>rw[if_neg (by simp)];omega
 have e2:(double.word neg ((K+1022)*2 ^ 52+M) / double.signWeight%2==1)=neg:=by
  unfold Format.word
  show(_ / 2 ^ 63%2==1)=_
  cases neg with
  | true =>
    rw[if_pos rfl]
    show((2 ^ 63+_) / 2 ^ 63%2==1)=true
    rw[show(2 ^ 63+((K+1022)*2 ^ 52+M)) / 2 ^ 63=1 by omega]
    rfl
  | false =>
    rw[if_neg (by simp),show((K+1022)*2 ^ 52+M) / 2 ^ 63=0 by omega]
    rfl
 have e3:double.binade=2 ^ 52:=rfl
 have e4:double.infRung=2047*2 ^ 52:=by decide
 have e5:double.leastPlace = -1074:=by decide
 unfold Format.read
 rw[e1,e2,e3,e4,e5]
 simp only
 rw[if_neg (by omega),if_pos (by omega)]
 have d1:((K+1022)*2 ^ 52+M) / 2 ^ 52=K+1023:=by omega
 have d2:((K+1022)*2 ^ 52+M)%2 ^ 52=M-2 ^ 52:=by omega
 rw[d1,d2,show 2 ^ 52+(M-2 ^ 52)=M by omega,show(-1074:Int)+((K+1023-1:Nat):Int)=(K:Int)-52 by omega]
theorem VA {neg:Bool}{low drop:Nat}{way:Toward}:way.cut neg (low*2 ^ drop) drop=low:=by
 unfold Toward.cut
 by_cases h0:low=0
 ·subst h0
  rw[Nat.zero_mul]
  have hg:0<1 <<< min drop (Nat.log2 0+2):=by rw[Nat.shiftLeft_eq,Nat.one_mul];exact Nat.pow_pos (by omega)
  generalize 1 <<< min drop (Nat.log2 0+2)=g at hg
  simp only[Nat.zero_div,Nat.zero_mod]
  cases way <;> simp <;> omega
 ·have hp:0<2 ^ drop:=Nat.pow_pos (by omega)
  have hl:min drop ((low*2 ^ drop).log2+2)=drop:=by
   rw[aBR low drop h0];omega
  rw[hl,Nat.shiftLeft_eq,Nat.one_mul]
  simp only[Nat.mul_div_cancel _ hp,Nat.mul_mod_left]
  cases way <;> simp <;> omega
theorem LL {d:Datum}{n:Int}(h:xW d n)(hn:n.natAbs<2 ^ 53):DR (double.write d) n:=by
 obtain⟨s,m,e,rfl,he⟩:=h
 have ha:=ZQ he
 have hpe:0<2 ^ e.toNat:=Nat.pow_pos (by omega)
 have hpe':0<2 ^ (-e).toNat:=Nat.pow_pos (by omega)
 unfold DR
 show xW (double.read (double.nearest s m e)) n
 unfold Format.nearest
 by_cases hm:m=0
 ·rw[if_pos hm]
  subst hm
  have hn0:n=0:=by
   rw[Nat.zero_mul]at ha
   have:n.natAbs=0:=(Nat.mul_eq_zero.1 ha.symm).resolve_right (by omega)
   omega
  subst hn0
  have:double.read (double.word s 0) = .number s 0 (-1074):=by cases s <;> decide +kernel
  rw[this]
  refine⟨s,0,-1074,rfl,?_⟩
  rw[show sg s 0=0 by cases s <;> rfl,Int.zero_mul,Int.zero_mul]
 ·rw[if_neg hm]
  have hn0:n.natAbs≠0:=by
   intro h0
   rw[h0,Nat.zero_mul]at ha
   exact hm ((Nat.mul_eq_zero.1 ha).resolve_right (by omega))
  obtain⟨N,hN⟩:∃ N,n.natAbs=N:=⟨_,rfl⟩
  rw[hN]at ha hn hn0
  obtain⟨K,hKe⟩:∃ K,N.log2=K:=⟨_,rfl⟩
  have hK:K<=52:=by
   have:=(Nat.log2_lt hn0).2 hn
   omega
  have hlog:(m.log2:Int)+e=K:=by
   have:=congrArg Nat.log2 ha
   rw[aBR m _ hm,aBR N _ hn0]at this
   omega
  have hf:(double.fractionBits:Int)=52:=rfl
  have e5:double.leastPlace = -1074:=by decide
  have hlast:max (e+m.log2-double.fractionBits) double.leastPlace=(K:Int)-52:=by
   rw[hf,e5];omega
  simp only
  rw[hlast]
  have hkept:Toward.even.cut s (m <<< (e-((K:Int)-52)).toNat) ((K:Int)-52-e).toNat=N*2 ^ (52-K):=by
   rw[Nat.shiftLeft_eq]
   by_cases hc:(K:Int)-52<=e
   ·rw[show((K:Int)-52-e).toNat=0 by omega]
    have e1:m*2 ^ (e-((K:Int)-52)).toNat=N*2 ^ (52-K):=by
     have hp:0<2 ^ (-e).toNat:=hpe'
     apply Nat.eq_of_mul_eq_mul_right hp
     rw[Nat.mul_assoc,Nat.mul_assoc,<- Nat.pow_add,Nat.mul_comm (2 ^ (52-K)),<- Nat.mul_assoc,<- ha,Nat.mul_assoc,<- Nat.pow_add]
     congr 2
     omega
    rw[e1]
    have := @VA s (N*2 ^ (52-K)) 0 .even
    rw[Nat.pow_zero,Nat.mul_one]at this
    exact this
   ·rw[show(e-((K:Int)-52)).toNat=0 by omega,Nat.pow_zero,Nat.mul_one]
    have e1:m=N*2 ^ (52-K)*2 ^ ((K:Int)-52-e).toNat:=by
     have h0:e.toNat=0:=by omega
     rw[h0,Nat.pow_zero,Nat.mul_one]at ha
     rw[ha,Nat.mul_assoc,<- Nat.pow_add]
     congr 2
     omega
    rw[e1]
    exact VA
  rw[hkept,e5,show((K:Int)-52 - -1074).toNat=K+1022 by omega]
  have b1:2 ^ 52<=N*2 ^ (52-K):=by
   have:=Nat.mul_le_mul_right (2 ^ (52-K)) (Nat.log2_self_le hn0)
   rw[hKe,<- Nat.pow_add,show K+(52-K)=52 by omega]at this
   exact this
  have b2:N*2 ^ (52-K)<2 ^ 53:=by
   have:=Nat.mul_lt_mul_of_pos_right (@Nat.lt_log2_self N) (show 0<2 ^ (52-K)from Nat.pow_pos (by omega))
   rw[hKe,<- Nat.pow_add,show K+1+(52-K)=53 by omega]at this
   exact this
  have hmin:min ((K+1022)*double.binade+N*2 ^ (52-K)) double.infRung=(K+1022)*2 ^ 52+N*2 ^ (52-K):=by
   rw[show double.binade=2 ^ 52 from rfl,show double.infRung=2047*2 ^ 52 by decide]
   generalize N*2 ^ (52-K)=M at b1 b2⊢
   exact Nat.min_eq_left (by omega)
  rw[hmin,aI4 hK b1 b2]
  refine⟨s,_,_,rfl,?_⟩
  have hs:sg s (N*2 ^ (52-K))=n*2 ^ (52-K):=by
   have hp:(0:Int)<2 ^ e.toNat:=Int.pow_pos (by omega)
   have hp':(0:Int)<2 ^ (-e).toNat:=Int.pow_pos (by omega)
   unfold sg at he⊢
   rw[Int.natCast_mul,pw]
   cases s with
   | true =>
     rw[if_pos rfl]at he⊢
     have hneg:n<0:=by
      have h1:(-(m:Int))*2 ^ e.toNat<0:=Int.mul_neg_of_neg_of_pos (by omega) hp
      rw[he]at h1
      rcases Int.lt_or_le n 0 with h|h
      ·exact h
      ·have:=Int.mul_nonneg h (Int.le_of_lt hp');omega
     rw[<- Int.neg_mul,show -(N:Int)=n by omega]
   | false =>
     rw[if_neg (by simp)]at he⊢
     have hpos:0<=n:=by
      have h1:0<=(m:Int)*2 ^ e.toNat:=Int.mul_nonneg (by omega) (Int.le_of_lt hp)
      rw[he]at h1
      rcases Int.lt_or_le n 0 with h|h
      ·have:=Int.mul_neg_of_neg_of_pos h hp';omega
      ·exact h
     rw[show(N:Int)=n by omega]
  rw[hs,show((K:Int)-52).toNat=0 by omega,show(-((K:Int)-52)).toNat=52-K by omega,Int.pow_zero,Int.mul_one]
theorem aFe {s:Bool}{m:Nat}{e n:Int}(he:sg s m*2 ^ e.toNat=n*2 ^ (-e).toNat):sg s n.natAbs=n:=by
 have hp:(0:Int)<2 ^ e.toNat:=Int.pow_pos (by omega)
 have hp':(0:Int)<2 ^ (-e).toNat:=Int.pow_pos (by omega)
 unfold sg at he⊢
 cases s with
 | true =>
   rw[if_pos rfl]at he⊢
   have h1:(-(m:Int))*2 ^ e.toNat<=0:=Int.mul_nonpos_of_nonpos_of_nonneg (by omega) (Int.le_of_lt hp)
   rw[he]at h1
   rcases Int.lt_or_le 0 n with h|h
   ·have:=Int.mul_pos h hp';omega
   ·omega
 | false =>
   rw[if_neg (by simp)]at he⊢
   have h1:0<=(m:Int)*2 ^ e.toNat:=Int.mul_nonneg (by omega) (Int.le_of_lt hp)
   rw[he]at h1
   rcases Int.lt_or_le n 0 with h|h
   ·have:=Int.mul_neg_of_neg_of_pos h hp';omega
   ·omega
theorem IV (s:Bool)(m up:Nat):signed s m up=sg s m*2 ^ up:=by
 unfold signed sg
 rw[Nat.shiftLeft_eq,Int.natCast_mul,pw]
 cases s <;> simp[Int.neg_mul]
theorem shift {S a i base:Int}(h:S*2 ^ i.toNat=a*2 ^ (-i).toNat)(hb:base<=i):S*2 ^ (i-base).toNat*2 ^ base.toNat=a*2 ^ (-base).toNat:=by
 rw[Int.mul_assoc,<- Int.pow_add]
 by_cases h0:0<=base
 ·rw[show(-base).toNat=0 by omega,show(i-base).toNat+base.toNat=i.toNat by omega,h,show(-i).toNat=0 by omega]
 ·rw[show base.toNat=0 by omega,Nat.add_zero]
  by_cases h1:0<=i
  ·rw[show(i-base).toNat=i.toNat+(-base).toNat by omega,Int.pow_add,<- Int.mul_assoc,h,show(-i).toNat=0 by omega,Int.pow_zero,Int.mul_one]
  ·rw[show i.toNat=0 by omega,Int.pow_zero,Int.mul_one]at h
   rw[h,Int.mul_assoc,<- Int.pow_add,show(-i).toNat+(i-base).toNat=(-base).toNat by omega]
theorem aGl (n:Int):xW (.number (decide (n<0)) n.natAbs 0) n:=⟨_,_,_,rfl,by rw[aCg];rfl⟩
theorem aGe {d:Datum}{n:Int}(h:xW d n):xW d.opposite (-n):=by
 obtain⟨s,m,e,rfl,he⟩:=h
 refine⟨!s,m,e,rfl,?_⟩
 have:sg (!s) m = -sg s m:=by cases s <;> simp[sg]
 rw[this,Int.neg_mul,Int.neg_mul,he]
theorem aAv {d d':Datum}{a b:Int}(h:xW d a)(h':xW d' b):∃ r,d.sum d'=some r/\xW r (a+b):=by
 obtain⟨s,m,i,rfl,h1⟩:=h
 obtain⟨t,n,j,rfl,h2⟩:=h'
 refine⟨_,rfl,_,_,_,rfl,?_⟩
 rw[IV,IV]
 have k1:=shift h1 (show min i j<=i by omega)
 have k2:=shift h2 (show min i j<=j by omega)
 generalize min i j=base at k1 k2⊢
 have hs:∀ x:Int,sg (if x=0 then s&&t else decide (x<0)) x.natAbs=x:=by
  intro x
  by_cases h0:x=0
  ·subst h0;simp[sg]
  ·rw[if_neg h0];exact aCg x
 rw[hs,Int.add_mul,k1,k2,<- Int.add_mul]
theorem aBF {d d':Datum}{a b:Int}(h:xW d a)(h':xW d' b):∃ r,d.product d'=some r/\xW r (a*b):=by
 obtain⟨s,m,i,rfl,h1⟩:=h
 obtain⟨t,n,j,rfl,h2⟩:=h'
 refine⟨_,rfl,_,_,_,rfl,?_⟩
 have hs:sg (s ^^ t) (m*n)=sg s m*sg t n:=by
  unfold sg
  rw[Int.natCast_mul]
  cases s <;> cases t <;> simp[Int.neg_mul,Int.mul_neg]
 rw[hs]
 generalize sg s m=S at h1⊢
 generalize sg t n=T at h2⊢
 have hp:(2:Int) ^ ((-i).toNat+(-j).toNat)≠0:=Int.ne_of_gt (Int.pow_pos (by omega))
 apply Int.eq_of_mul_eq_mul_right hp
 have e1:S*T*2 ^ (i.toNat+j.toNat)=a*b*2 ^ ((-i).toNat+(-j).toNat):=by
  rw[Int.pow_add,Int.pow_add]
  calc S*T*(2 ^ i.toNat*2 ^ j.toNat)=(S*2 ^ i.toNat)*(T*2 ^ j.toNat):=by ac_rfl
   _=(a*2 ^ (-i).toNat)*(b*2 ^ (-j).toNat):=by rw[h1,h2]
   _=a*b*(2 ^ (-i).toNat*2 ^ (-j).toNat):=by ac_rfl
 rw[Int.mul_assoc,<- Int.pow_add,show(i+j).toNat+((-i).toNat+(-j).toNat)=(i.toNat+j.toNat)+(-(i+j)).toNat by omega,Int.pow_add,<- Int.mul_assoc,e1]
 ac_rfl
theorem aE5 {d d':Datum}{a b:Int}(h:xW d a)(h':xW d' b):d.order d'=some (compare a b):=by
 obtain⟨s,m,i,rfl,h1⟩:=h
 obtain⟨t,n,j,rfl,h2⟩:=h'
 show some (compare (signed s m (i-min i j).toNat) (signed t n (j-min i j).toNat))=_
 rw[IV,IV]
 have k1:=shift h1 (show min i j<=i by omega)
 have k2:=shift h2 (show min i j<=j by omega)
 generalize min i j=base at k1 k2⊢
 generalize sg s m*2 ^ (i-base).toNat=x at k1⊢
 generalize sg t n*2 ^ (j-base).toNat=y at k2⊢
 have hp:(0:Int)<2 ^ base.toNat:=Int.pow_pos (by omega)
 have hp':(0:Int)<2 ^ (-base).toNat:=Int.pow_pos (by omega)
 have hlt:x<y ↔ a<b:=by
  constructor
  ·intro h
   have:=Int.mul_lt_mul_of_pos_right h hp
   rw[k1,k2]at this
   exact Int.lt_of_mul_lt_mul_right this (Int.le_of_lt hp')
  ·intro h
   have:=Int.mul_lt_mul_of_pos_right h hp'
   rw[<- k1,<- k2]at this
   exact Int.lt_of_mul_lt_mul_right this (Int.le_of_lt hp)
 have heq:x=y ↔ a=b:=by
  constructor
  ·intro h
   rw[h,k2]at k1
   exact(Int.eq_of_mul_eq_mul_right (Int.ne_of_gt hp') k1).symm
  ·intro h
   rw[h,<- k2]at k1
   exact Int.eq_of_mul_eq_mul_right (Int.ne_of_gt hp) k1
 congr 1
 show compareOfLessAndEq x y=compareOfLessAndEq a b
 unfold compareOfLessAndEq
 simp only[hlt,heq]
theorem aE2 {d:Datum}{n:Int}(h:xW d n):d.toInt .zero=some n:=by
 obtain⟨s,m,e,rfl,he⟩:=h
 show some (signed s (Toward.zero.cut s (m <<< e.toNat) (-e).toNat) 0)=_
 rw[Nat.shiftLeft_eq,ZQ he,VA,IV,Int.pow_zero,Int.mul_one,aFe he]
theorem Z7 {n:Int}(hn:n.natAbs<2 ^ 53):DR (FloatKind.f64.nearest n) n:=LL (aGl n) hn
theorem ZN {x y:Nat}{a b:Int}(h:DR x a)(h':DR y b)(hn:(a+b).natAbs<2 ^ 53):∃ r,double.add x y=some r/\DR r (a+b):=by
 obtain⟨d,h1,h2⟩:=aAv h h'
 exact⟨_,by unfold Format.add;rw[h1];rfl,LL h2 hn⟩
theorem ZT {x y:Nat}{a b:Int}(h:DR x a)(h':DR y b)(hn:(a-b).natAbs<2 ^ 53):∃ r,double.sub x y=some r/\DR r (a-b):=by
 obtain⟨d,h1,h2⟩:=aAv h (aGe h')
 exact⟨_,by unfold Format.sub;rw[h1];rfl,LL (by rw[Int.sub_eq_add_neg];exact h2) hn⟩
theorem UC {x y:Nat}{a b:Int}(h:DR x a)(h':DR y b)(hn:(a*b).natAbs<2 ^ 53):∃ r,double.mul x y=some r/\DR r (a*b):=by
 obtain⟨d,h1,h2⟩:=aBF h h'
 exact⟨_,by unfold Format.mul;rw[h1];rfl,LL h2 hn⟩
theorem aGz {x y:Nat}{a b:Int}(h:DR x a)(h':DR y b):double.order x y=some (compare a b):=aE5 h h'
theorem aH7 {x:Nat}{a:Int}(h:DR x a):(double.read x).toInt .zero=some a:=aE2 h
def M2 (z:Nat×Nat)(a b:Int):Prop:=DR z.1 a/\DR z.2 b
theorem aIv {x y:Nat×Nat}{a b c d:Int}(h:M2 x a b)(h':M2 y c d)(h1:(a+c).natAbs<2 ^ 53)(h2:(b+d).natAbs<2 ^ 53):∃ r,cSumBits .add .f64 x.1 x.2 y.1 y.2=some r/\M2 r (a+c) (b+d):=by
 obtain⟨u,u1,u2⟩:=ZN h.1 h'.1 h1
 obtain⟨v,v1,v2⟩:=ZN h.2 h'.2 h2
 refine⟨(u,v),?_,u2,v2⟩
 have e1:floatBits .add .f64 x.1 y.1=some u:=u1
 have e2:floatBits .add .f64 x.2 y.2=some v:=v1
 unfold cSumBits
 rw[e1,e2]
 rfl
theorem aIW {x y:Nat×Nat}{a b c d:Int}(h:M2 x a b)(h':M2 y c d)(h1:(a-c).natAbs<2 ^ 53)(h2:(b-d).natAbs<2 ^ 53):∃ r,cSumBits .sub .f64 x.1 x.2 y.1 y.2=some r/\M2 r (a-c) (b-d):=by
 obtain⟨u,u1,u2⟩:=ZT h.1 h'.1 h1
 obtain⟨v,v1,v2⟩:=ZT h.2 h'.2 h2
 refine⟨(u,v),?_,u2,v2⟩
 have e1:floatBits .sub .f64 x.1 y.1=some u:=u1
 have e2:floatBits .sub .f64 x.2 y.2=some v:=v1
 unfold cSumBits
 rw[e1,e2]
 rfl
theorem aJJ {x y:Nat×Nat}{a b c d:Int}(h:M2 x a b)(h':M2 y c d)(h1:(a*c).natAbs<2 ^ 52)(h2:(b*d).natAbs<2 ^ 52)(h3:(a*d).natAbs<2 ^ 52)(h4:(b*c).natAbs<2 ^ 52) :
 ∃ r,cMulBits x.1 x.2 y.1 y.2=some r/\M2 r (a*c-b*d) (a*d+b*c):=by
 obtain⟨p,p1,p2⟩:=UC h.1 h'.1 (by omega)
 obtain⟨q,q1,q2⟩:=UC h.2 h'.2 (by omega)
 obtain⟨u,u1,u2⟩:=ZT p2 q2 (by omega)
 obtain⟨s,s1,s2⟩:=UC h.1 h'.2 (by omega)
 obtain⟨t,t1,t2⟩:=UC h.2 h'.1 (by omega)
 obtain⟨v,v1,v2⟩:=ZN s2 t2 (by omega)
 refine⟨(u,v),?_,u2,v2⟩
 have e1:floatBits .mul .f64 x.1 y.1=some p:=p1
 have e2:floatBits .mul .f64 x.2 y.2=some q:=q1
 have e3:floatBits .sub .f64 p q=some u:=u1
 have e4:floatBits .mul .f64 x.1 y.2=some s:=s1
 have e5:floatBits .mul .f64 x.2 y.1=some t:=t1
 have e6:floatBits .add .f64 s t=some v:=v1
 unfold cMulBits
 simp only[e1,e2,e3,e4,e5,e6,Option.bind_some]
theorem SG {n:Int}(hn:n.natAbs<2 ^ 53):DR (floatOfInt .f64 n) n:=Z7 hn
theorem aFR {x:Nat}{n:Int}(h:DR x n)(h1 : -9223372036854775808<=n)(h2:n<=9223372036854775807):floatToIntVal .f64 x .i64=some n:=by
 unfold floatToIntVal
 have:(FloatKind.f64.decode x).toInt .zero=some n:=aH7 h
 rw[this]
 simp only
 rw[if_pos ⟨by show i64.min<=n;have:i64.min = -9223372036854775808:=by decide
               omega,by show n<=i64.max;have:i64.max=9223372036854775807:=by decide
                        omega⟩]
theorem FG {x y:Nat}{a b:Int}(h:DR x a)(h':DR y b):FloatKind.f64.format.order x y=some (compare a b):=aGz h h'
end Go.Fl

namespace Go.Proofs.YtcfpfefadlnmcaaGreat
open IntKind (i8 i16 i32 i64 u8 u16 u32 u64)
open Go.Mach Go.RowKit
set_option maxRecDepth 100000
set_option linter.unusedVariables false
set_option linter.unusedSimpArgs false
def zE:Int->List Int->Int
 | acc,[]=>acc
 | acc,d::r=>if ((decide (d<1)||decide (4096<d))||decide (8192<i64.wrap (acc*d)))=true then 0 else zE (i64.wrap (acc*d)) r
def szF (l:List Int):Int:=if (decide ((l.length:Int)<1)||decide (4<(l.length:Int)))=true then 0 else zE 1 l
theorem aIR:∀ (l:List Int) (acc:Int),acc<=8192->zE acc l<=8192
 | [],acc,h=>h
 | d::r,acc,h=>by
   unfold zE
   split
   ·omega
   ·rename_i hn
    simp only[cJ,aT,jA]at hn
    exact aIR r _ (by omega)
theorem HM (l:List Int):szF l<=8192:=by
 unfold szF
 split
 ·omega
 ·exact aIR l 1 (by omega)
theorem OG {a:List Int}{Q:Int->Prop}(h:Q (szF a)):pN a Q:=by
 refine⟨?_⟩
 unfold szF at h
 by_cases e:(decide ((a.length:Int)<1)||decide (4<(a.length:Int)))=true
 ·rw[aB e]at h⊢;exact h
 ·rw[aA e]at h⊢
  simp only[cJ,aT,jA]at e
  obtain⟨z,hzz⟩:∃ z,zE 1 a=z:=⟨_,rfl⟩
  rw[hzz]at h
  refine⟨?_⟩
  refine Loop.inv (n:=a.length) (fun m s=>∃ i:Nat,i+m=a.length/\s.2=(i:Int)/\zE s.1 (a.drop i)=z) ⟨0,by omega,rfl,hzz⟩ ?_
  rintro m ⟨acc,i'⟩ X ⟨i,hi,he,hz⟩ hX
  simp only at he hz
  subst he
  unfold MX
  by_cases hlt:i<a.length
  ·have hd:a.drop i=a.getD i 0::a.drop (i+1):=by
    rw[MK hlt,aW,aQ hlt];rfl
   rw[hd]at hz
   rw[aB (by simpa using hlt)]
   refine⟨by simp only[];omega,?_⟩
   simp only[Int.toNat_natCast]
   unfold zE at hz
   split
   ·rename_i hc
    rw[aB hc]at hz
    rw[<- hz]at h;exact h
   ·rename_i hc
    rw[aA hc]at hz
    refine hX (m-1) _ (by omega) ⟨i+1,by omega,?_,hz⟩
    show i64.wrap ((i:Int)+1)=_
    rw[aC _];rfl
  ·have hil:i=a.length:=by omega
   subst hil
   rw[aA (by simp)]
   rw[SM]at hz
   unfold zE at hz
   show Q acc
   rw[hz];exact h
theorem PB {a:List Int}{Q:Bool->Prop}(h:Q (decide (0<szF a))):kM a Q:=by
 refine⟨?_⟩
 exact OG h
open Go.Mach Go.RowKit Go.Fl
set_option maxRecDepth 100000
set_option linter.unusedVariables false
set_option linter.unusedSimpArgs false
def inP (a lo hi:Int):Bool:=decide (lo<=a)&&decide (a<=hi)
theorem Q9 {a lo hi:Int}{Q:Bool->Prop}(h:Q (inP a lo hi)):wU a lo hi Q:=⟨h⟩
theorem C1 {a lo hi:Int}(h1:lo<=a)(h2:a<=hi):inP a lo hi=true:=by
 unfold inP
 rw[aF h1,aF h2]
 rfl
theorem aMA {r c:Int}{Q:Nat×Nat->Prop}(h1 : -1000<=r/\r<=1000)(h2 : -1000<=c/\c<=1000)(h:∀ z,M2 z r c->Q z):JE r c Q:=by
 refine⟨?_⟩
 refine Q9 ?_
 rw[C1 h1.1 h1.2]
 simp only[jn,Bool.not_true,eA,cB]
 refine Q9 ?_
 rw[C1 h2.1 h2.2]
 simp only[Bool.not_true,eA,cB]
 exact h _ ⟨SG (by omega),SG (by omega)⟩
theorem aLN:DR 13875379345695965184 (-1000):=by
 have:FloatKind.f64.nearest (-1000)=13875379345695965184:=by decide +kernel
 rw[<- this]
 exact Z7 (by decide)
theorem aLj:DR 4652007308841189376 1000:=by
 have:FloatKind.f64.nearest 1000=4652007308841189376:=by decide +kernel
 rw[<- this]
 exact Z7 (by decide)
theorem aN3 (a b:Int):((some (compare a b)==some Ordering.gt)||(some (compare a b)==some Ordering.eq))=decide (b<=a):=by
 show((some (compareOfLessAndEq a b)==some Ordering.gt)||(some (compareOfLessAndEq a b)==some Ordering.eq))=decide (b<=a)
 unfold compareOfLessAndEq
 by_cases h1:a<b
 ·rw[aB h1,kG (by omega)];rfl
 ·rw[aA h1]
  by_cases h2:a=b
  ·rw[aB h2,aF (by omega)];rfl
  ·rw[aA h2,aF (by omega)];rfl
theorem aNM (a b:Int):((some (compare a b)==some Ordering.lt)||(some (compare a b)==some Ordering.eq))=decide (a<=b):=by
 show((some (compareOfLessAndEq a b)==some Ordering.lt)||(some (compareOfLessAndEq a b)==some Ordering.eq))=decide (a<=b)
 unfold compareOfLessAndEq
 by_cases h1:a<b
 ·rw[aB h1,aF (by omega)];rfl
 ·rw[aA h1]
  by_cases h2:a=b
  ·rw[aB h2,aF (by omega)];rfl
  ·rw[aA h2,kG (by omega)];rfl
theorem aNZ (a:Int):(some (compare a a)==some Ordering.eq)=true:=by
 show(some (compareOfLessAndEq a a)==some Ordering.eq)=true
 unfold compareOfLessAndEq
 rw[aA (by omega),aB rfl]
 rfl
theorem aII {x:Nat}{n:Int}{Q:Int×Bool->Prop}(hw:DR x n)(h:Q (if inP n (-1000) 1000=true then(n,true)else(0,false))):G0 x Q:=by
 refine⟨?_⟩
 rw[FG hw aLN,FG hw aLj,aN3,aNM]
 by_cases hi:inP n (-1000) 1000=true
 ·rw[aB hi]at h
  unfold inP at hi
  rw[hi,aA (by simp)]
  simp only[aK,aT]at hi
  refine⟨n,aFR hw (by omega) (by omega),?_⟩
  show Q (n,FloatKind.f64.format.order (floatOfInt .f64 n) x==some Ordering.eq)
  rw[FG (SG (by omega)) hw,aNZ]
  exact h
 ·rw[aA hi]at h
  unfold inP at hi
  have hi2:(decide (-1000<=n)&&decide (n<=1000))=false:=by simpa using hi
  rw[hi2,aB (by rfl)]
  exact h
theorem aP2 {z:Nat×Nat}{r c:Int}{Q:Int×Int×Bool->Prop}(hz:M2 z r c)(h:Q (if (inP r (-1000) 1000&&inP c (-1000) 1000)=true then(r,c,true)else(0,0,false))):aAU z Q:=by
 refine⟨?_⟩
 refine aII hz.1 (aII hz.2 ?_)
 cases h1:inP r (-1000) 1000 <;> cases h2:inP c (-1000) 1000 <;> rw[h1,h2]at h <;> exact h
open Go.Mach Go.RowKit Go.Fl
set_option maxRecDepth 100000
set_option linter.unusedVariables false
set_option linter.unusedSimpArgs false
def tO (rows cols cr cc:Int)(i j:Nat):List (Int×Int×Int) :=
 if (inP (cr+i) 0 (rows-1)&&inP (cc+j) 0 (cols-1))=true then [((cr+i)*cols+(cc+j),(i:Int),(j:Int))]else []
def rH (rows cols cr cc:Int)(i k:Nat):List (Int×Int×Int):=(List.range k).flatMap (tO rows cols cr cc i)
theorem aFI (rows cols cr cc:Int)(i j:Nat):(tO rows cols cr cc i j).length<=1:=by
 unfold tO;split <;> simp
theorem O9 {rows cols cr cc:Int}{i k:Nat}:rH rows cols cr cc i (k+1)=rH rows cols cr cc i k++tO rows cols cr cc i k:=by
 unfold rH
 rw[sV,R4]
 simp
theorem MC {rows cols cr cc:Int}{i:Nat}:∀ k,(rH rows cols cr cc i k).length<=k
 | 0=>by simp[rH]
 | k+1=>by
   rw[O9,mR]
   have:=MC (rows:=rows) (cols:=cols) (cr:=cr) (cc:=cc) (i:=i) k
   have:=aFI rows cols cr cc i k
   omega
theorem aNQ {z:Nat×Nat}{rows cols cr cc:Int}{i k:Nat}{acc:List (Int×Int×Int)}{K0:List (Int×Int×Int)->Prop}(hz:M2 z cr cc)(hr:0<=rows/\rows<=1000)(hc:0<=cols/\cols<=1000)(hcr : -100000<=cr/\cr<=100000)(hcc : -100000<=cc/\cc<=100000)(hi:i<=1000)(hk:k<=1000)(ha:acc.length<=1000000)
 (h:K0 (acc++rH rows cols cr cc i k)):s8 z (i:Int) (k:Int) rows cols K0 (0,acc):=by
 refine⟨?_⟩
 have eg:((0:Int),acc)=(fun j:Nat=>((j:Int),acc++rH rows cols cr cc i j)) 0:=by simp[rH]
 rw[eg]
 refine Loop.range (B:=l6 z (i:Int) (k:Int) rows cols K0) (f:=fun j:Nat=>((j:Int),acc++rH rows cols cr cc i j)) k (fun _=>True) trivial ?_ ?_
 ·intro j hj _ X hX
  have hX:=hX trivial
  unfold l6
  rw[aB (aF (show(j:Int)<(k:Int) by omega))]
  dsimp only at hX⊢
  refine aMA (by omega) (by omega) fun u hu => ?_
  obtain⟨r,e,hrr⟩:=aIv hz hu (by omega) (by omega)
  refine⟨r,e,aP2 (z:=r) hrr ?_⟩
  have hlen:=MC (rows:=rows) (cols:=cols) (cr:=cr) (cc:=cc) (i:=i) j
  have e1:i64.wrap (rows-1)=rows-1:=aC _
  have e2:i64.wrap (cols-1)=cols-1:=aC _
  rw[O9,<- gZ]at hX
  by_cases hin:(inP (cr+i) 0 (rows-1)&&inP (cc+j) 0 (cols-1))=true
  ·have ew:tO rows cols cr cc i j=[((cr+i)*cols+(cc+j),(i:Int),(j:Int))]:=by unfold tO;rw[aB hin]
   simp only[aK]at hin
   have b1:0<=cr+i/\cr+i<=rows-1:=by simpa [inP] using hin.1
   have b2:0<=cc+j/\cc+j<=cols-1:=by simpa [inP] using hin.2
   have m1:0<=(cr+i)*cols:=EX b1.1 hc.1
   have m2:(cr+i)*cols<=1000*1000:=zD (by omega) hc.2 hc.1 (by omega)
   rw[C1 (by omega) (by omega),C1 (by omega) (by omega),aB (by rfl)]
   simp only[jn,bO]
   refine Q9 ?_
   rw[e1,hin.1]
   simp only[bO]
   refine Q9 ?_
   rw[e2,hin.2]
   simp only[bO]
   refine⟨?_,⟨?_⟩⟩
   ·simp only[mR,List.length_singleton];omega
   ·skip
    rw[aC ((j:Int)+1),aC ((cr+i)*cols),aC ((cr+i)*cols+(cc+j))]
    rw[ew]at hX
    exact hX
  ·have ew:tO rows cols cr cc i j=[]:=by unfold tO;rw[aA hin]
   rw[ew,dV]at hX
   have skip:oF (j:Int) (fun(y28:Int)=>X (y28,acc++rH rows cols cr cc i j)):=by
    refine⟨?_⟩
    rw[aC ((j:Int)+1)]
    exact hX
   by_cases hb:(inP (cr+i) (-1000) 1000&&inP (cc+j) (-1000) 1000)=true
   ·rw[aB hb]
    simp only[jn,bO]
    refine Q9 ?_
    rw[e1]
    cases h1:inP (cr+i) 0 (rows-1)with
    | false=>simp only[eA,cB];exact skip
    | true =>
      simp only[bO]
      refine Q9 ?_
      rw[e2]
      cases h2:inP (cc+j) 0 (cols-1)with
      | false=>simp only[eA,cB];exact skip
      | true=>rw[h1,h2]at hin;exact absurd rfl hin
   ·rw[aA hb]
    simp only[jn,eA,cB]
    exact skip
 ·intro _ X
  unfold l6
  rw[aA (by simp)]
  exact h
def OB (rows cols cr cc:Int)(k:Nat)(m:Nat):List (Int×Int×Int):=(List.range m).flatMap fun i=>rH rows cols cr cc i k
theorem V0 {rows cols cr cc:Int}{k m:Nat}:OB rows cols cr cc k (m+1)=OB rows cols cr cc k m++rH rows cols cr cc m k:=by
 unfold OB
 rw[sV,R4]
 simp
theorem P6 {rows cols cr cc:Int}{k:Nat}:∀ m,(OB rows cols cr cc k m).length<=m*k
 | 0=>by simp[OB]
 | m+1=>by
   rw[V0,mR,Nat.succ_mul]
   have:=P6 (rows:=rows) (cols:=cols) (cr:=cr) (cc:=cc) (k:=k) m
   have:=MC (rows:=rows) (cols:=cols) (cr:=cr) (cc:=cc) (i:=m) k
   omega
theorem aF9 {rows cols stride pad r c:Int}{k:Nat}{Q:List (Int×Int×Int)->Prop}(hr:0<=rows/\rows<=1000)(hc:0<=cols/\cols<=1000)(hs:0<=stride/\stride<=100)(hp:0<=pad/\pad<=100)(h1:0<=r/\r<=900)(h2:0<=c/\c<=900)(hk:k<=900)
 (h:Q (OB rows cols (stride*r-pad) (stride*c-pad) k k)):rN (rows,cols,(k:Int),stride,pad) r c Q:=by
 have m1:0<=stride*r:=EX hs.1 h1.1
 have m2:stride*r<=100*900:=zD hs.2 h1.2 h1.1 (by omega)
 have m3:0<=stride*c:=EX hs.1 h2.1
 have m4:stride*c<=100*900:=zD hs.2 h2.2 h2.1 (by omega)
 refine⟨?_⟩
 dsimp only
 refine aMA (by show -1000<=stride/\stride<=1000;omega) (by omega) fun u hu => ?_
 refine aMA (by omega) (by omega) fun v hv => ?_
 obtain⟨p,e1,hpw⟩:=aJJ hu hv (by omega) (by rw[Int.zero_mul];decide) (by omega) (by rw[Int.zero_mul];decide)
 refine⟨p,e1,?_⟩
 refine aMA (by show -1000<=pad/\pad<=1000;omega) (by show -1000<=pad/\pad<=1000;omega) fun q hq => ?_
 rw[Int.zero_mul,Int.zero_mul,Int.sub_zero,Int.add_zero]at hpw
 obtain⟨z,e2,hz⟩:=aIW hpw hq (by omega) (by omega)
 refine⟨z,e2,⟨?_⟩⟩
 show Go.Mach.Loop (iP z (k:Int) rows cols (k:Int) (fun y=>Q y)) (0,[])
 have eg:((0:Int),([]:List (Int×Int×Int)))=(fun i:Nat=>((i:Int),OB rows cols (stride*r-pad) (stride*c-pad) k i)) 0:=by simp[OB]
 rw[eg]
 refine Loop.range (B:=iP z (k:Int) rows cols (k:Int) (fun y=>Q y)) (f:=fun i:Nat=>((i:Int),OB rows cols (stride*r-pad) (stride*c-pad) k i)) k (fun _=>True) trivial ?_ ?_
 ·intro i hi _ X hX
  have hX:=hX trivial
  unfold iP
  rw[aB (aF (show(i:Int)<(k:Int) by omega))]
  dsimp only at hX⊢
  have hl:=P6 (rows:=rows) (cols:=cols) (cr:=stride*r-pad) (cc:=stride*c-pad) (k:=k) i
  have hm:i*k<=900*900:=dE (by omega) hk
  refine aNQ (z:=z) hz hr hc (by omega) (by omega) (by omega) (by omega) (by omega) ?_
  rw[aC ((i:Int)+1)]
  rw[V0]at hX
  exact hX
 ·intro _ X
  unfold iP
  rw[aA (by simp)]
  exact h
open Go.Mach Go.RowKit Go.Fl
set_option maxRecDepth 100000
set_option linter.unusedVariables false
set_option linter.unusedSimpArgs false
theorem aG9 {b c:Bool}{Q K:Bool->Prop}{G:(Bool->Prop)->Prop}(hG:∀ P:Bool->Prop,P c->G P)(hK:∀ v,v=(b||c)->K v)(hQ:Q=K):jn (fun v=>Q v) (fun J=>if b=true then J true else G J):=by
 subst hQ
 cases b with
 | true=>exact hK _ rfl
 | false=>show(if false=true then Q true else G (fun v=>Q v));rw[aA (by simp)];exact hG _ (hK _ (by simp))
theorem aHi {a lo hi:Int}{Q:Bool->Prop}(h:Q (inP a lo hi)):JL a lo hi Q:=⟨h⟩
def AD (n k s p:Int):Bool:=(((!inP n 1 16 || !inP k 1 5) || !inP s 1 4) || !inP p 0 (k-1))||decide (n+2*p<k)
def bA (n k s p:Int):Int:=if AD n k s p=true then 0 else(n+2*p-k) / s+1
theorem RQ {n k s p:Int}{Q:Int->Prop}(h:Q (bA n k s p)):sQ n k s p Q:=by
 refine⟨?_⟩
 refine aHi ?_
 refine aG9 (b := !inP n 1 16) (c := !inP k 1 5) (fun P hp=>aHi hp) (fun v2 e2 => ?_) rfl
 refine aG9 (c := !inP s 1 4) (fun P hp=>aHi hp) (fun v5 e5 => ?_) rfl
 refine aG9 (c := !inP p 0 (i64.wrap (k-1))) (fun P hp=>aHi hp) (fun v8 e8 => ?_) rfl
 have e8':v8=(((!inP n 1 16 || !inP k 1 5) || !inP s 1 4) || !inP p 0 (i64.wrap (k-1))):=by rw[e8,e5,e2]
 by_cases hc:((!inP n 1 16 || !inP k 1 5) || !inP s 1 4)=true
 ·have hv:v8=true:=by rw[e8',hc];rfl
  have hb:AD n k s p=true:=by unfold AD;rw[hc];rfl
  unfold bA at h
  rw[aB hb]at h
  rw[hv,aB (by rfl)]
  exact h
 ·have hc':((!inP n 1 16 || !inP k 1 5) || !inP s 1 4)=false:=by simpa using hc
  simp only[eI,xS]at hc'
  have b1:1<=n/\n<=16:=by simpa [inP] using hc'.1.1
  have b2:1<=k/\k<=5:=by simpa [inP] using hc'.1.2
  have b3:1<=s/\s<=4:=by simpa [inP] using hc'.2
  rw[aC (k-1)]at e8'
  cases hv:v8 with
  | true =>
    have hb:AD n k s p=true:=by unfold AD;rw[<- e8',hv];rfl
    unfold bA at h
    rw[aB hb]at h
    rw[aB (by rfl)]
    exact h
  | false =>
    have hp:inP p 0 (k-1)=true:=by
     rw[hv]at e8'
     have:=e8'.symm
     simp only[eI,xS]at this
     exact this.2
    have b4:0<=p/\p<=k-1:=by simpa [inP] using hp
    rw[aC (2*p),aC (n+2*p)]
    have hbe:AD n k s p=decide (n+2*p<k):=by unfold AD;rw[<- e8',hv,PU]
    unfold bA at h
    rw[hbe]at h
    rw[PU]
    by_cases hl:decide (n+2*p<k)=true
    ·rw[aB hl]at h⊢;exact h
    ·rw[aA hl]at h⊢
     have hl2 : ¬ (n+2*p<k):=by simpa using hl
     have d0:0<=(n+2*p-k) / s:=Int.ediv_nonneg (by omega) (by omega)
     have d1:(n+2*p-k) / s<=n+2*p-k:=U4 _ (by omega)
     refine⟨by omega,?_⟩
     rw[aC (n+2*p-k),OY (by omega),aC ((n+2*p-k) / s),aC _]
     exact h
theorem LW {n k s p:Int}(h:AD n k s p=false):(1<=n/\n<=16)/\(1<=k/\k<=5)/\(1<=s/\s<=4)/\(0<=p/\p<=k-1)/\k<=n+2*p:=by
 unfold AD at h
 simp only[eI,xS,fB]at h
 obtain⟨⟨⟨⟨h1,h2⟩,h3⟩,h4⟩,h5⟩:=h
 exact⟨by simpa [inP] using h1,by simpa [inP] using h2,by simpa [inP] using h3,by simpa [inP] using h4,by omega⟩
theorem oC (n k s p:Int):0<=bA n k s p/\bA n k s p<=25/\(1<=bA n k s p->AD n k s p=false):=by
 unfold bA
 cases hb:AD n k s p with
 | true=>rw[aB rfl];exact⟨by omega,by omega,fun h=>by omega⟩
 | false =>
   rw[aA (by simp)]
   obtain⟨b1,b2,b3,b4,b5⟩:=LW hb
   have d0:0<=(n+2*p-k) / s:=Int.ediv_nonneg (by omega) (by omega)
   have d1:(n+2*p-k) / s<=n+2*p-k:=U4 _ (by omega)
   exact⟨by omega,by omega,fun _=>rfl⟩
def aDP (rows cols r c k s p:Int):Bool:=((decide (bA rows k s p<1)||decide (bA cols k s p<1)) || !inP r 0 (bA rows k s p-1)) || !inP c 0 (bA cols k s p-1)
def fX (rows cols r c k s p:Int):List (Int×Int×Int):=if aDP rows cols r c k s p=true then []else OB rows cols (s*r-p) (s*c-p) k.toNat k.toNat
theorem PL {rows cols r c k s p:Int}{Q:List (Int×Int×Int)->Prop}(h:Q (fX rows cols r c k s p)):uU rows cols r c k s p Q:=by
 refine⟨?_⟩
 refine⟨?_⟩
 refine RQ (RQ ?_)
 obtain⟨m1,m2,m3⟩:=oC rows k s p
 obtain⟨n1,n2,n3⟩:=oC cols k s p
 unfold fX aDP at h
 dsimp only
 rw[aC (bA rows k s p-1),aC (bA cols k s p-1)]
 refine aG9 (b:=decide (bA rows k s p<1)||decide (bA cols k s p<1)) (c := !inP r 0 (bA rows k s p-1)) (fun P hp=>Q9 hp) (fun v2 e2 => ?_) rfl
 refine aG9 (c := !inP c 0 (bA cols k s p-1)) (fun P hp=>Q9 hp) (fun v5 e5 => ?_) rfl
 rw[<- e2,<- e5]at h
 cases hv:v5 with
 | true=>rw[hv,aB rfl]at h;rw[aB (by rfl)];exact h
 | false =>
   rw[hv,aA (by simp)]at h
   rw[aA (by simp)]
   rw[hv,e2]at e5
   have:=e5.symm
   simp only[eI,xS,fB]at this
   obtain⟨⟨⟨g1,g2⟩,g3⟩,g4⟩:=this
   obtain⟨b1,b2,b3,b4,b5⟩:=LW (m3 (by omega))
   obtain⟨c1,_⟩:=LW (n3 (by omega))
   have r1:0<=r/\r<=bA rows k s p-1:=by simpa [inP] using g3
   have r2:0<=c/\c<=bA cols k s p-1:=by simpa [inP] using g4
   have hk:((k.toNat:Nat):Int)=k:=by omega
   have:=aF9 (rows:=rows) (cols:=cols) (stride:=s) (pad:=p) (r:=r) (c:=c) (k:=k.toNat) (Q:=fun r8=>Q r8) (by omega) (by omega) (by omega) (by omega) (by omega) (by omega) (by omega) h
   rw[hk]at this
   exact this
end Go.Proofs.YtcfpfefadlnmcaaGreat
namespace Go.Proofs.YtcfpfefadlnmcaaGreat
open IntKind (i8 i16 i32 i64 u8 u16 u32 u64)
end Go.Proofs.YtcfpfefadlnmcaaGreat
namespace Go.Proofs.YtcfpfefadlnmcaaGreat
open IntKind (i8 i16 i32 i64 u8 u16 u32 u64)
end Go.Proofs.YtcfpfefadlnmcaaGreat
namespace Go.Proofs.YtcfpfefadlnmcaaGreat
open IntKind (i8 i16 i32 i64 u8 u16 u32 u64)
end Go.Proofs.YtcfpfefadlnmcaaGreat

namespace Go.Proofs.YtcfpfefadlnmcaaGreat
open IntKind (i8 i16 i32 i64 u8 u16 u32 u64)
open Go.Mach Go.RowKit
set_option maxRecDepth 100000
set_option linter.unusedVariables false
set_option linter.unusedSimpArgs false
abbrev T3:=List Int×Int×List Int
abbrev Z3:T3:=([],0,[])
theorem AB {b c:Bool}{Q K:Bool->Prop}{G:(Bool->Prop)->Prop}(hG:(b=true->∀ P:Bool->Prop,P c->G P))(hK:∀ v,v=(b&&c)->K v)(hQ:Q=K):jn (fun v=>Q v) (fun J=>if b=true then G J else J false):=by
 subst hQ
 cases b with
 | true=>show(if true=true then G (fun v=>Q v)else Q false);rw[aB rfl];exact hG rfl _ (hK _ (by simp))
 | false=>exact hK _ rfl
theorem f7 {b c:Bool}{Q K:Bool->Prop}{G:(Bool->Prop)->Prop}(hG:b=false->∀ P:Bool->Prop,P c->G P)(hK:∀ v,v=(b||c)->K v)(hQ:Q=K):jn (fun v=>Q v) (fun J=>if b=true then J true else G J):=by
 subst hQ
 cases b with
 | true=>exact hK _ rfl
 | false=>show(if false=true then Q true else G (fun v=>Q v));rw[aA (by simp)];exact hG rfl _ (hK _ (by simp))
theorem FK (a b A B:Int)(h1 : -A<=a)(h2:a<=A)(h3:0<=b)(h4:b<=B)(hA:0<=A) : -(A*B)<=a*b/\a*b<=A*B:=by
 have e1:a*b<=A*b:=PQ h2 h3
 have e2:A*b<=A*B:=WA h4 hA
 have e3 : -A*b<=a*b:=PQ h1 h3
 have e4 : -A*b = -(A*b):=Int.neg_mul A b
 omega
theorem YV {a b:Int}(h : -128<=a/\a<=127)(k : -128<=b/\b<=127) : -16384<=a*b/\a*b<=16384:=by
 rcases Int.le_total 0 b with hb|hb
 ·have:=FK a b 128 128 (by omega) (by omega) hb (by omega) (by omega)
  omega
 ·have:=FK a (-b) 128 128 (by omega) (by omega) (by omega) (by omega) (by omega)
  rw[Int.mul_neg]at this
  omega
def All8 (l:List Int):Prop:=∀ y∈l,-128<=y/\y<=127
theorem All8.at_ {l:List Int}(h:All8 l)(i:Nat) : -128<=l.getD i 0/\l.getD i 0<=127:=by
 rw[aW]
 cases hq:l[i]? with
 | none=>simp
 | some y=>exact h y (s7 hq)
theorem ix {r n i:Nat}(h:r*n+i<=100000000):i64.wrap (i64.wrap ((r:Int)*(n:Int))+(i:Int))=((r*n+i:Nat):Int):=by
 have e:(r:Int)*(n:Int)=((r*n:Nat):Int):=by rw[jR]
 have h1:r*n<=100000000:=by omega
 rw[e,aC ((r*n:Nat):Int),aC _,Int.natCast_add]
theorem xC {r n:Nat}(h:r*n<=100000000):i64.wrap ((r:Int)*(n:Int))=((r*n:Nat):Int):=by
 have e:(r:Int)*(n:Int)=((r*n:Nat):Int):=by rw[jR]
 rw[e,aC ((r*n:Nat):Int)]
theorem aGO {l:List Int}{v:Int}{Q:Bool->Prop}(hl:l.length<=1000000000000)(h:Q (decide (v∈l))):oX l v Q:=by
 refine⟨?_⟩
 refine⟨?_⟩
 refine⟨?_⟩
 refine Loop.range (B:=iY l v (l.length:Int) (fun _=>Q (decide ((0:Int) <= -1))) (fun y=>Q (decide (0<=y)))) (f:=fun i:Nat=>(i:Int)) l.length (fun i=>∀ j,j<i->v≠l.getD j 0) (fun j hj=>absurd hj (by omega)) ?_ ?_
 ·intro i hi hI X hX
  unfold iY
  rw[aB (by simpa using hi)]
  refine⟨by omega,?_⟩
  simp only[Int.toNat_natCast]
  by_cases hv:v=l.getD i 0
  ·rw[aB (by simpa using hv)]
   have:decide (v∈l)=true:=by rw[aT,hv];exact O6 hi
   rw[this]at h
   rw[aF (by omega:(0:Int)<=(i:Int))]
   exact h
  ·rw[aA (by simpa using hv),aC _]
   refine hX fun j hj => ?_
   by_cases hji:j=i
   ·subst hji;exact hv
   ·exact hI j (by omega)
 ·intro hI X
  unfold iY
  rw[aA (by simp)]
  have:decide (v∈l)=false:=by
   simp only[fB]
   intro hm
   obtain⟨j,hj,e⟩:=List.getElem_of_mem hm
   apply hI j hj
   rw[aW,aQ hj,<- e];rfl
  rw[this]at h
  exact h
def X5 (a b:Int):Bool:=(decide ((i64.wrap (0-b))<=a))&&(decide (a<=b))
theorem aKf {a b:Int}{Q:Bool->Prop}(h:Q (X5 a b)):EU a b Q:=⟨h⟩
def bB (a:T3):Bool:=((decide (0<szF a.1)&&((a.2.2.length:Int)==szF a.1))&&X5 a.2.1 64) && !decide (-128∈a.2.2)
theorem qD {a:T3}{Q:Bool->Prop}(h:Q (bB a)):cS a Q:=by
 refine⟨?_⟩
 refine PB ?_
 refine AB (b:=decide (0<szF a.1)) (c:=(a.2.2.length:Int)==szF a.1) (fun _ P hp=>OG hp) (fun v2 e2 => ?_) rfl
 refine AB (c:=X5 a.2.1 64) (fun _ P hp=>aKf hp) (fun v3 e3 => ?_) rfl
 refine AB (c := !decide (-128∈a.2.2)) (fun h3 P hp=>aGO (Q:=fun r=>P (!r)) ?_ hp) (fun v4 e4 => ?_) rfl
 ·rw[e3,e2]at h3
  simp only[aK,dR]at h3
  have:=HM a.1
  omega
 ·rw[e4,e3,e2]
  exact h
theorem aLA {a:Int}{b:Int}(h1:0<=b)(h2:b<=1000):X5 a b=true ↔ -b<=a/\a<=b:=by
 unfold X5
 rw[aC (0-b)]
 simp only[aK,aT]
 omega
theorem lN {a:T3}:bB a=true ↔ 0<szF a.1/\(a.2.2.length:Int)=szF a.1/\(-64<=a.2.1/\a.2.1<=64) /\ -128∉a.2.2:=by
 unfold bB
 rw[aK,aK,aK,aLA (by omega) (by omega)]
 simp only[aT,dR,oR,fB]
 constructor
 ·rintro⟨⟨⟨h1,h2⟩,h3⟩,h4⟩;exact⟨h1,h2,h3,h4⟩
 ·rintro⟨h1,h2,h3,h4⟩;exact⟨⟨⟨h1,h2⟩,h3⟩,h4⟩
def dT:List Int->Int
 | []=>1
 | d::r=>d*dT r
theorem aEj:∀ (l:List Int) (acc:Int),1<=acc->acc<=8192->0<zE acc l->(∀ d∈l,1<=d/\d<=4096)/\zE acc l=acc*dT l
 | [],acc,h,_,_=>⟨by simp,by simp[zE,dT]⟩
 | d::r,acc,h,h2,h3=>by
   unfold zE at h3⊢
   split at h3
   ·omega
   ·rename_i hn
    rw[aA hn]
    simp only[cJ,aT,jA]at hn
    have hb:=FK acc d 8192 4096 (by omega) (by omega) (by omega) (by omega) (by omega)
    have hw:i64.wrap (acc*d)=acc*d:=aC _
    rw[hw]at h3 hn⊢
    have hp:1<=acc*d:=by
     have:=Int.mul_pos (show 0<acc by omega) (show 0<d by omega)
     omega
    obtain⟨g1,g2⟩:=aEj r (acc*d) hp (by omega) h3
    refine⟨fun x hx => ?_,by rw[g2];show _=acc*(d*dT r);rw[MJ]⟩
    rcases List.mem_cons.1 hx with e|e
    ·subst e;omega
    ·exact g1 x e
theorem tP {l:List Int}(h:0<szF l):(1<=l.length/\l.length<=4)/\(∀ d∈l,1<=d/\d<=4096)/\szF l=dT l/\dT l<=8192:=by
 have hle:=HM l
 unfold szF at h hle⊢
 split at h
 ·omega
 ·rename_i hn
  rw[aA hn]at hle⊢
  simp only[cJ,aT,jA]at hn
  obtain⟨g1,g2⟩:=aEj l 1 (by omega) (by omega) h
  rw[OU]at g2
  exact⟨by omega,g1,g2,by omega⟩
theorem JJ:∀ {l:List Int},(∀ d∈l,1<=d)->1<=dT l
 | [],_=>by simp[dT]
 | d::r,h=>by
   have h1:=h d (by simp)
   have h2:=JJ (l:=r) fun x hx=>h x (by simp[hx])
   have:=Int.mul_pos (show 0<d by omega) (show 0<dT r by omega)
   unfold dT;omega
theorem aHn:∀ (l:List Int) (acc:Int),1<=acc->(∀ d∈l,1<=d/\d<=4096)->acc*dT l<=8192->zE acc l=acc*dT l
 | [],acc,h,_,_=>by simp[zE,dT]
 | d::r,acc,h,hd,h2=>by
   have h1:=hd d (by simp)
   have hr:∀ x∈r,1<=x/\x<=4096:=fun x hx=>hd x (by simp[hx])
   have hp:=JJ (l:=r) fun x hx=>(hr x hx).1
   have e:acc*dT (d::r)=acc*d*dT r:=by show acc*(d*dT r)=_;rw[MJ]
   rw[e]at h2⊢
   have h0:1<=acc*d:=by
    have:=Int.mul_pos (show 0<acc by omega) (show 0<d by omega)
    omega
   have h3:acc*d<=acc*d*dT r:=by
    have:=WA (c:=acc*d) hp (by omega)
    omega
   have hw:i64.wrap (acc*d)=acc*d:=aC _
   unfold zE
   rw[hw,aA (by simp;omega)]
   exact aHn r (acc*d) h0 hr h2
theorem aGa {l:List Int}(h1:1<=l.length/\l.length<=4)(hd:∀ d∈l,1<=d/\d<=4096)(h2:dT l<=8192):szF l=dT l:=by
 unfold szF
 rw[aA (by simp;omega),aHn l 1 (by omega) hd (by omega),OU]
theorem AZ (l:List Int):0<=szF l:=by
 rcases Int.lt_or_le (szF l) 0 with h|h
 ·exfalso
  have key:∀ (l:List Int) (acc:Int),1<=acc->acc<=8192->0<=zE acc l:=by
   intro l
   induction l with
   | nil=>intro acc h _;unfold zE;omega
   | cons d r ih =>
     intro acc h h2
     unfold zE
     split
     ·omega
     ·rename_i hn
      simp only[cJ,aT,jA]at hn
      have hb:=FK acc d 8192 4096 (by omega) (by omega) (by omega) (by omega) (by omega)
      have hw:i64.wrap (acc*d)=acc*d:=aC _
      rw[hw]at hn⊢
      have:=Int.mul_pos (show 0<acc by omega) (show 0<d by omega)
      exact ih _ (by omega) (by omega)
  have:=key l 1 (by omega) (by omega)
  unfold szF at h
  split at h <;> omega
 ·exact h
theorem aBp {a b c d:Int}(h:0<szF [a,b,c,d]):∃ n m p q:Nat,a=n/\b=m/\c=p/\d=q/\1<=n/\1<=m/\1<=p/\1<=q/\n*m*p*q<=8192/\szF [a,b,c,d]=((n*m*p*q:Nat):Int):=by
 obtain⟨_,h2,h3,h4⟩:=tP h
 have ha:=h2 a (by simp)
 have hb:=h2 b (by simp)
 have hc:=h2 c (by simp)
 have hd:=h2 d (by simp)
 obtain⟨n,rfl⟩:=gN (show 0<=a by omega)
 obtain⟨m,rfl⟩:=gN (show 0<=b by omega)
 obtain⟨p,rfl⟩:=gN (show 0<=c by omega)
 obtain⟨q,rfl⟩:=gN (show 0<=d by omega)
 have e:dT [(n:Int),m,p,q]=((n*m*p*q:Nat):Int):=by
  simp only[dT,Int.natCast_mul,MQ,MJ]
 rw[h3]
 rw[e]at h4⊢
 exact⟨n,m,p,q,rfl,rfl,rfl,rfl,by omega,by omega,by omega,by omega,by omega,rfl⟩
theorem aLs {n m p q:Nat}(h1:1<=n/\n<=4096)(h2:1<=m/\m<=4096)(h3:1<=p/\p<=4096)(h4:1<=q/\q<=4096)(h:n*m*p*q<=8192):szF [(n:Int),m,p,q]=((n*m*p*q:Nat):Int):=by
 have e:dT [(n:Int),m,p,q]=((n*m*p*q:Nat):Int):=by
  simp only[dT,Int.natCast_mul,MQ,MJ]
 rw[aGa (by simp) _ (by rw[e];omega),e]
 intro d hd
 simp only[S9,List.not_mem_nil,or_false]at hd
 omega
theorem aKs {c:Int}(h:0<szF [c]):1<=c/\c<=4096/\szF [c]=c:=by
 obtain⟨_,h2,h3,h4⟩:=tP h
 have:=h2 c (by simp)
 have e:dT [c]=c:=by simp[dT]
 rw[h3,e]
 omega
theorem aIQ {c:Int}(h1:1<=c)(h2:c<=4096):szF [c]=c:=by
 have e:dT [c]=c:=by simp[dT]
 rw[aGa (by simp) _ (by rw[e];omega),e]
 intro d hd
 simp only[S9,List.not_mem_nil,or_false]at hd
 omega
def vT (a:Int):Int:=aO (-4611686018427387904) (aV a 4611686018427387904)
theorem aIG {a b c:Int}{Q:Int->Prop}(h:Q (aO b (aV a c))):l5 a b c Q:=⟨h⟩
theorem aE8 {a b c:Int}{Q:Int->Prop}(h:Q (aO b (aV a c))):jZ a b c Q:=⟨h⟩
theorem aIJ {a:Int}{Q:Int->Prop}(h:Q (vT a)):xZ a Q:=⟨⟨h⟩⟩
theorem aLK {a:Int}(h1 : -4611686018427387904<=a)(h2:a<=4611686018427387904):vT a=a:=by
 unfold vT aO aV
 split <;> split <;> omega
def alF (a b c:Int):Int :=
 let r1:=vT a
 let by_:=aO (-1000) (aV b 1000)-aO (-1000) (aV c 1000)
 if by_<0 then r1.fdiv (2 ^ (aV (0-by_) 62).toNat)
 else if 20<by_ then(if 0<r1 then 1048576 else if r1<0 then -1048576 else 0)
 else aO (-1048576) (aV (aO (-1048576) (aV r1 1048576)*2 ^ by_.toNat) 1048576)
theorem OL (a lo hi:Int)(h:lo<=hi):lo<=aO lo (aV a hi)/\aO lo (aV a hi)<=hi:=by
 unfold aO aV
 split <;> split <;> omega
theorem UT (a b:Nat)(h:a<=b):(1:Int)<=2 ^ a/\(2:Int) ^ a<=2 ^ b:=by
 have h1:(2:Nat) ^ a<=2 ^ b:=Nat.pow_le_pow_right (by omega) h
 have h2:0<(2:Nat) ^ a:=Nat.pow_pos (by omega)
 have e:∀ n:Nat,((2 ^ n:Nat):Int)=2 ^ n:=fun n=>by rw[Int.natCast_pow];rfl
 rw[<- e,<- e]
 omega
theorem aK9 {a L U p:Int}(hp:1<=p)(hL:L<=0)(hU:0<=U)(h1:L<=a)(h2:a<=U):L<=a.fdiv p/\a.fdiv p<=U:=by
 rw[aA4 _ (by omega)]
 constructor
 ·rw[Int.le_ediv_iff_mul_le (by omega)]
  have:L*p<=L*1:=Int.mul_le_mul_of_nonpos_left hL hp
  omega
 ·have:=Int.ediv_le_ediv (c:=p) (by omega) h2
  have:=U4 (a:=U) p hU
  omega
theorem aEb {a b c:Int}(h : -128<=a/\a<=127) : -1048576<=alF a b c/\alF a b c<=1048576:=by
 unfold alF
 rw[aLK (by omega) (by omega)]
 simp only
 generalize aO (-1000) (aV b 1000)-aO (-1000) (aV c 1000)=y
 split
 ·have:=aK9 (p:=2 ^ (aV (0-y) 62).toNat) (UT _ _ (aJ _)).1 (by omega) (by omega) h.1 h.2
  omega
 ·split
  ·split
   ·omega
   ·split <;> omega
  ·exact OL _ _ _ (by omega)
theorem aLa {a b c:Int}{Q:Int->Prop}(h:Q (alF a b c)):yL a b c Q:=by
 refine⟨?_⟩
 refine aIJ (aIG (aIG ?_))
 unfold alF at h
 simp only at h
 have hb:=OL b (-1000) 1000 (by omega)
 have hc:=OL c (-1000) 1000 (by omega)
 generalize aO (-1000) (aV b 1000)=x at *
 generalize aO (-1000) (aV c 1000)=y at *
 rw[aC (x-y)]
 by_cases h1:x-y<0
 ·rw[aB h1]at h
  rw[aB (by simpa using h1),aC (0-(x-y))]
  have hs:0<=aV (0-(x-y)) 62/\aV (0-(x-y)) 62<=62:=by unfold aV;split <;> omega
  refine⟨hs.1,?_⟩
  rw[show min (aV (0-(x-y)) 62).toNat (i64).bits=(aV (0-(x-y)) 62).toNat from D4 (by show _<=64;omega)]
  exact h
 ·rw[aA h1]at h
  rw[aA (by simpa using h1)]
  by_cases h2:20<x-y
  ·rw[aB h2]at h
   by_cases h3:0<vT a
   ·rw[aB h3]at h
    rw[aB (by simp[h2,h3])]
    exact h
   ·rw[aA h3]at h
    rw[aA (by simp;omega)]
    by_cases h4:vT a<0
    ·rw[aB h4]at h
     rw[aB (by simp[h2,h4])]
     exact h
    ·rw[aA h4]at h
     rw[aA (by simp;omega),aB (by simp[h2])]
     exact h
  ·rw[aA h2]at h
   rw[aA (by simp;omega),aA (by simp;omega),aA (by simp;omega)]
   refine aE8 ⟨by omega,aE8 ?_⟩
   have hm:=OL (vT a) (-1048576) 1048576 (by omega)
   have hp:=UT (x-y).toNat 20 (by omega)
   have:=FK (aO (-1048576) (aV (vT a) 1048576)) (2 ^ (x-y).toNat) 1048576 1048576 hm.1 hm.2 (by omega) hp.2 (by omega)
   rw[show min (x-y).toNat (i64).bits=(x-y).toNat from D4 (by show _<=64;omega)]
   rw[aC _]
   exact h
def mE (n:Int):Bool:=(decide (0<=n)&&decide (n<=1023))&&decide (n*16384+1048576<16777216)
theorem aAQ {n:Int}{Q:Bool->Prop}(h:Q (mE n)):xN n Q:=by
 refine⟨?_⟩
 unfold mE at h
 by_cases h1:0<=n/\n<=1023
 ·rw[aC (n*16384),aC _]
  exact h
 ·have e:(decide (0<=n)&&decide (n<=1023))=false:=by simp;omega
  rw[e]at h⊢
  exact h
theorem aI2 {n:Int}:mE n=true ↔ 0<=n/\n<=959:=by
 unfold mE
 simp only[aK,aT]
 omega
def gQ (d:List Int)(e n:Int):T3×Int :=
 if (!mE n)=true then(Z3,3)
 else if (decide (e < -128)||decide (128<e))=true then(Z3,3)
 else if (!decide (0<szF d))=true then(Z3,1)
 else((d,(e,List.replicate (szF d).toNat 0)),0)
theorem Y2 {n e:Int}{d:List Int}{Q:T3×Int->Prop}(h:Q (gQ d e n)):AK n e d Q:=by
 refine⟨?_⟩
 refine aAQ ?_
 unfold gQ at h
 by_cases h1:(!mE n)=true
 ·rw[aB h1]at h;rw[aB (by rw[h1];rfl)];exact h
 ·rw[aA h1]at h
  by_cases h2:(decide (e < -128)||decide (128<e))=true
  ·rw[aB h2]at h
   rw[aB (by simp only[cJ,aT]at h2⊢;rcases h2 with h2|h2 <;> simp[h2])]
   exact h
  ·rw[aA h2]at h
   rw[aA (by simp only[cJ,aT,jA]at h1 h2⊢;exact⟨⟨h1,h2.2⟩,h2.1⟩)]
   refine PB ?_
   by_cases h3:(!decide (0<szF d))=true
   ·rw[aB h3]at h⊢;exact h
   ·rw[aA h3]at h⊢
    have:=HM d
    have:=AZ d
    exact OG ⟨⟨by omega,by omega⟩,h⟩
theorem zS {d:List Int}{e n:Int}(h:(gQ d e n).2=0):mE n=true/\(-128<=e/\e<=128)/\0<szF d/\gQ d e n=((d,(e,List.replicate (szF d).toNat 0)),0):=by
 unfold gQ at h⊢
 split at h
 ·cases h
 ·split at h
  ·cases h
  ·split at h
   ·cases h
   ·rename_i h1 h2 h3
    rw[aA h1,aA h2,aA h3]
    simp at h1 h2 h3
    exact⟨h1,by omega,by omega,rfl⟩
def lY (l:List T3):Int:=if l.all bB=true then(if l.all (fun t=>(t.1.length:Int)==4)=true then 0 else 2)else 1
theorem aDr {l:List T3}{Q:Int->Prop}(hl:l.length<=1000000)(h:Q (lY l)):J0 l Q:=by
 refine⟨?_⟩
 unfold lY at h
 refine⟨?_⟩
 refine Loop.all (B:=BB l (l.length:Int) _ _) l bB (K0:=Q (if l.all (fun t=>(t.1.length:Int)==4)=true then 0 else 2)) (K1:=Q 1) ?_ ?_ ?_
 ·intro i hi X hX hK
  unfold BB
  rw[aB (by simpa using hi)]
  refine⟨by omega,qD ?_⟩
  simp only[Int.toNat_natCast]
  have hg:l.getD i ([],0,[])=l[i]:=by rw[aW,aQ hi];rfl
  rw[hg]
  by_cases hm:bB l[i]=true
  ·rw[aA (by simp[hm]),aC _]
   exact hX hm
  ·have hm:bB l[i]=false:=by simpa using hm
   rw[aB (by simp[hm])]
   exact hK hm
 ·intro hK X
  unfold BB
  rw[aA (by simp)]
  refine⟨?_⟩
  refine Loop.all (B:=A7 l (l.length:Int) _ _) l (fun t=>(t.1.length:Int)==4) (K0:=Q 0) (K1:=Q 2) ?_ ?_ ?_
  ·intro i hi X hX hK
   unfold A7
   rw[aB (by simpa using hi)]
   refine⟨by omega,?_⟩
   simp only[Int.toNat_natCast]
   have hg:l.getD i ([],0,[])=l[i]:=by rw[aW,aQ hi];rfl
   rw[hg]
   unfold bne
   by_cases hm:((l[i].1.length:Int)==4)=true
   ·rw[aA (by simp[hm]),aC _]
    exact hX hm
   ·have hm:((l[i].1.length:Int)==4)=false:=by simpa using hm
    rw[aB (by simp[hm])]
    exact hK hm
  ·intro hK X
   unfold A7
   rw[aA (by simp)]
   exact hK
  ·split <;> rename_i hh <;> simp only[hh]at hK <;> simpa using hK
 ·split <;> rename_i hh <;> simp only[hh]at h <;> simpa using h
theorem aHO {a b k s p:Int}{Q:((Int×Int×Int×Int×Int×Int×Int)×Bool)->Prop}(h:Q ((a,(b,(k,(s,(p,(bA a k s p,bA b k s p)))))),(decide (0<bA a k s p))&&(decide (0<bA b k s p)))):I7 a b k s p Q:=by
 refine⟨?_⟩
 exact RQ (RQ h)
theorem aJV (x:Int):0<=u8.wrap x/\u8.wrap x<256:=by
 simp only[IntKind.wrap,IntKind.bits,IntKind.signed]
 simp
 omega
def shF (a:Int):Int:=aO 0 (aV a 62)
theorem UF (a:Int):0<=shF a/\shF a<=62:=by
 unfold shF aO aV
 split <;> split <;> omega
def b32 (a:Int):Int:=aO 1 (aV a 32)
theorem aEd (a:Int):1<=b32 a/\b32 a<=32:=by
 unfold b32 aO aV
 split <;> split <;> omega
def aCA (a:Int):Int:=i64.wrap ((i64.wrap (1*2 ^ (min (i64.wrap (b32 a-1)).toNat (i64).bits)))-1)
def clF (a b:Int):Int:=aO (i64.wrap (0-aCA b)) (aV (vT a) (aCA b))
theorem aLG {a:Int}{Q:Int->Prop}(h:Q (shF a)):O8 a Q:=⟨aIG h⟩
theorem aMJ {a b:Int}{Q:Int->Prop}(h:Q (clF a b)):PC a b Q:=by
 refine⟨aIG ⟨?_,aIJ (aE8 h)⟩⟩
 have:=aEd b
 show 0<=i64.wrap (b32 b-1)
 rw[aC _]
 omega
theorem aAt (a:Int) : -4611686018427387904<=vT a/\vT a<=4611686018427387904:=by
 unfold vT aO aV
 split <;> split <;> omega
def chF (a s r:Int):Int:=(i64.wrap (vT a+(i64.wrap (u64.wrap ((BitVec.ofInt (u64).bits r &&& BitVec.ofInt (u64).bits (u64.wrap ((u64.wrap (1*2 ^ (min (shF s).toNat (u64).bits)))-1))).toNat:Nat))))).fdiv (2 ^ (min (shF s).toNat (i64).bits))
theorem aKd {a s r:Int}{Q:Int->Prop}(h:Q (chF a s r)):KR a s r Q:=⟨aLG (aIJ ⟨(UF s).1,(UF s).1,h⟩)⟩
theorem aAr {a r:Int}:chF a 0 r=vT a:=by
 have e:BitVec.ofInt (u64).bits (u64.wrap ((u64.wrap (1*2 ^ (min (shF 0).toNat (u64).bits)))-1))=0#(u64).bits:=by decide +kernel
 have e2:(2:Int) ^ (min (shF 0).toNat (i64).bits)=1:=by decide +kernel
 unfold chF
 rw[e,e2,BitVec.and_zero]
 have h:=aAt a
 have e3:i64.wrap (u64.wrap ((0#(u64).bits).toNat:Nat))=0:=by decide +kernel
 rw[e3,Int.add_zero,aC _,Int.fdiv_one]
def l31 (x n:Int):Int:=i64.wrap (n+(i64.wrap ((qR.data.toList.getD (u8.wrap x).toNat 0).toNat:Nat)))
def l15 (x n:Int):Int:=if 256<=x then l31 (x.fdiv (2 ^ (min ((8:Int)).toNat (u64).bits))) (i64.wrap (n+8))else l31 x n
def l7 (x n:Int):Int:=if 65536<=x then l15 (x.fdiv (2 ^ (min ((16:Int)).toNat (u64).bits))) (i64.wrap (n+16))else l15 x n
def aK3 (x:Int):Int:=if 4294967296<=x then l7 (x.fdiv (2 ^ (min ((32:Int)).toNat (u64).bits))) 32 else l7 x 0
theorem aNH:∀ i:Fin 256,(qR.data.toList.getD i.1 0).toNat<=8:=by decide +kernel
theorem aL3:qR.size=256:=by decide +kernel
theorem aM5 {x n:Int}{K:Int->Prop}(h:K (l31 x n)):rK x n K:=by
 refine⟨⟨?_,h⟩⟩
 rw[aL3]
 exact⟨(aJV x).1,(aJV x).2⟩
theorem aMe {x n:Int}{K:Int->Prop}(h:K (l15 x n)):q8 x n K:=by
 refine⟨?_⟩
 unfold l15 at h
 by_cases e:256<=x
 ·rw[aB e]at h
  rw[aB (by simpa using e)]
  exact⟨by decide,aM5 h⟩
 ·rw[aA e]at h
  rw[aA (by simpa using e)]
  exact aM5 h
theorem aNw {x n:Int}{K:Int->Prop}(h:K (l7 x n)):rR x n K:=by
 refine⟨?_⟩
 unfold l7 at h
 by_cases e:65536<=x
 ·rw[aB e]at h
  rw[aB (by simpa using e)]
  exact⟨by decide,aMe h⟩
 ·rw[aA e]at h
  rw[aA (by simpa using e)]
  exact aMe h
theorem aNu {x:Int}{K:Int->Prop}(h:K (aK3 x)):DA x K:=by
 refine⟨?_⟩
 unfold aK3 at h
 by_cases e:4294967296<=x
 ·rw[aB e]at h
  rw[aB (by simpa using e)]
  exact⟨by decide,aNw h⟩
 ·rw[aA e]at h
  rw[aA (by simpa using e)]
  exact aNw h
def aKM (a:Int):Int:=aK3 (u64.wrap (aO (vT a) (i64.wrap (0-vT a))))
theorem aNA {a:Int}{Q:Int->Prop}(h:Q (aKM a)):SW a Q:=⟨aIJ (aNu (K:=Q) h)⟩
theorem aH8 (a:Int):∃ v,∀ Q:Int->Prop,Q v->JZ a Q:=⟨_,fun Q h=>⟨⟨by decide,by decide,by decide,h⟩⟩⟩
theorem aMb (a b c:Int):∃ v,∀ Q:Int->Prop,Q v->Y4 a b c Q:=by
 obtain⟨v1,h1⟩:=aH8 a
 obtain⟨v2,h2⟩:=aH8 (u64.wrap ((BitVec.ofInt (u64).bits v1 ^^^ BitVec.ofInt (u64).bits b).toNat:Nat))
 obtain⟨v3,h3⟩:=aH8 (u64.wrap ((BitVec.ofInt (u64).bits v2 ^^^ BitVec.ofInt (u64).bits c).toNat:Nat))
 exact⟨v3,fun Q h=>⟨h1 _ (h2 _ (h3 _ h))⟩⟩
noncomputable def atF (a b c:Int):Int:=Classical.choose (aMb a b c)
theorem aO5 {a b c:Int}{Q:Int->Prop}(h:Q (atF a b c)):Y4 a b c Q:=Classical.choose_spec (aMb a b c) Q h
def mD (a:List Int×Int×List Int):Bool:=(decide (0<szF a.1)&&((a.2.2.length:Int)==szF a.1))&&X5 a.2.1 128
theorem aFh {a:List Int×Int×List Int}{Q:Bool->Prop}(h:Q (mD a)):A4 a Q:=by
 refine⟨PB ?_⟩
 unfold jn
 dsimp only
 unfold mD at h
 cases hb:decide (0<szF a.1)with
 | true =>
   rw[hb]at h
   rw[aB rfl]
   refine OG ?_
   cases hc:((a.2.2.length:Int)==szF a.1)with
   | true =>
     rw[hc]at h
     rw[aB rfl]
     exact aKf h
   | false =>
     rw[hc]at h
     rw[aA (by simp)]
     exact h
 | false =>
   rw[hb]at h
   rw[aA (by simp),aA (by simp)]
   exact h
theorem GP {a:List Int×Int×List Int}(h:mD a=true):0<szF a.1/\(a.2.2.length:Int)=szF a.1/\a.1≠[]/\a.1.length<=4/\a.2.2.length<=8192:=by
 unfold mD at h
 simp only[aK,aT,dR]at h
 obtain⟨⟨h1,h2⟩,_⟩:=h
 have h3:=HM a.1
 refine⟨h1,h2,?_,?_,by omega⟩
 ·intro e;rw[e]at h1;exact absurd h1 (by decide)
 ·unfold szF at h1
  split at h1
  ·omega
  ·rename_i hn
   simp only[cJ,aT,jA]at hn
   omega
def aCS (l:List Int):Int:=l.foldl (fun m x=>aO m (aKM (i64.wrap x))) 0
theorem ZM (l:List Int)(i:Nat)(h:i<l.length):aCS (l.take (i+1))=aO (aCS (l.take i)) (aKM (i64.wrap (l.getD i 0))):=by
 unfold aCS
 rw[WT,S3,aW,aQ h]
 rfl
def aB3 (a:List Int×Int×List Int):Int:=if mD a=true then aCS a.2.2 else 0
theorem aML {a:List Int×Int×List Int}{Q:Int->Prop}(h:Q (aB3 a)):LA a Q:=by
 refine⟨aFh (a:=a) ?_⟩
 unfold aB3 at h
 cases hm:mD a with
 | false =>
   rw[hm]at h
   exact h
 | true =>
   rw[hm,aB rfl]at h
   rw[aA (by simp)]
   obtain⟨_,_,_,_,hlen⟩:=GP hm
   refine⟨?_⟩
   refine Loop.range (B:=tG a.2.2 (a.2.2.length:Int) fun y=>Q y) a.2.2.length (fun i=>(aCS (a.2.2.take i),(i:Int))) (fun _=>True) trivial ?_ ?_
   ·intro i hi _ X hX
    unfold tG
    rw[aB (by simpa using hi)]
    refine⟨by simp only[];omega,aNA ?_⟩
    have:=hX trivial
    rw[ZM _ _ hi]at this
    simp only[Int.toNat_natCast]
    rw[aC ((i:Int)+1)]
    exact this
   ·intro _ X
    unfold tG
    rw[aA (by simp)]
    simp only[rJ]
    exact h
theorem BD {a:List Int}{Q:List Int->Prop}(h1:a.length<=17592186044416)(h:Q a):bP a Q:=by
 refine⟨fun e=>(by rw[e]at h;exact h),?_,h⟩
 simp only[List.length_nil]
 omega
theorem aGJ {a:List Int}{Q:List Int->Prop}(h1:a.length<=140737488355328)(h:Q a):m9 a Q:=by
 refine⟨fun e=>(by rw[e]at h;exact h),?_,h⟩
 simp only[List.length_nil]
 omega
noncomputable def XI (b s t sh:Int)(l:List Int)(i:Nat):Int:=i8.wrap (clF (chF (i64.wrap (l.getD i 0)) sh (atF s t (u64.wrap (i:Int)))) b)
noncomputable def aHx (b s t sh:Int)(l:List Int):List Int:=(List.range l.length).map (XI b s t sh l)
def xY (a:List Int×Int×List Int)(b:Int):Int:=aO 0 (i64.wrap (aB3 a-(i64.wrap (b-1))))
noncomputable def vY (a:List Int×Int×List Int)(b s t:Int):(List Int×Int×List Int)×Int :=
 if ((!(mD a)||(decide (b<2)))||(decide (8<b)))=true then(([],0,[]),1)
 else if (!(X5 (i64.wrap (a.2.1+xY a b)) 64))=true then(([],0,[]),3)
 else((a.1,i64.wrap (a.2.1+xY a b),aHx b s t (xY a b) a.2.2),0)
theorem aHs {a:List Int×Int×List Int}{b s t:Int}{Q:((List Int×Int×List Int)×Int)->Prop}(h:Q (vY a b s t)):DK a b s t Q:=by
 refine⟨?_⟩
 refine aFh (a:=a) ?_
 unfold vY at h
 by_cases e:((!(mD a)||(decide (b<2)))||(decide (8<b)))=true
 ·rw[aB e]at h⊢;exact h
 ·rw[aA e]at h⊢
  have hm:mD a=true:=by
   cases hm:mD a with
   | true=>rfl
   | false=>exfalso;apply e;rw[hm];rfl
  obtain⟨_,_,h3,h4,hlen⟩:=GP hm
  refine aML (a:=a) (BD (by omega) (aKf ?_))
  show(if (!(X5 (i64.wrap (a.2.1+xY a b)) 64))=true then _ else _)
  by_cases e2:(!(X5 (i64.wrap (a.2.1+xY a b)) 64))=true
  ·rw[aB e2]at h⊢;exact h
  ·rw[aA e2]at h⊢
   refine⟨?_⟩
   refine Loop.range (B:=s9 b s t (xY a b) a.2.2 (a.2.2.length:Int) _) (f:=fun i=>((i:Int),(List.range i).map (XI b s t (xY a b) a.2.2))) a.2.2.length (fun _=>True) trivial ?_ ?_
   ·intro i hi _ X hX
    unfold s9
    rw[aB (by simpa using hi)]
    refine⟨by simp only[];omega,aO5 (aKd (aMJ ⟨?_,?_⟩))⟩
    ·simp only[FH,V7,List.length_singleton]
     omega
    ·have:=hX trivial
     simp only[sV,uM,List.map_cons,List.map_nil]at this
     simp only[Int.toNat_natCast]
     rw[aC ((i:Int)+1)]
     exact this
   ·intro _ X
    unfold s9
    rw[aA (by simp)]
    exact h
theorem aC1 {a b:List Int}{Q:Bool->Prop}(hl:a.length<=1000000000000000)(h:Q (decide (a=b))):lT a b Q:=by
 refine⟨?_⟩
 by_cases e:a.length=b.length
 ·rw[aA (by simp[e])]
  refine⟨?_⟩
  refine Loop.range (B:=kD a b (a.length:Int) (fun _=>Q true) (fun _=>Q false)) a.length (fun i=>(i:Int)) (fun i=>∀ j,j<i->a.getD j 0=b.getD j 0) (fun j hj=>absurd hj (by omega)) ?_ ?_
  ·intro i hi hI X hX
   unfold kD
   rw[aB (aF (show(i:Int)<(a.length:Int) by omega))]
   refine⟨by omega,by omega,?_⟩
   simp only[Int.toNat_natCast]
   by_cases hd:a.getD i 0=b.getD i 0
   ·rw[aA (by simpa using hd),aC _]
    refine hX fun j hj => ?_
    by_cases hji:j=i
    ·subst hji;exact hd
    ·exact hI j (by omega)
   ·rw[aB (by simpa using hd)]
    have:decide (a=b)=false:=by
     simp only[fB]
     intro hab;exact hd (by rw[hab])
    rw[this]at h;exact h
  ·intro hI X
   unfold kD
   rw[aA (by simp)]
   have:decide (a=b)=true:=by
    simp only[aT]
    refine aA6 e fun i h1 h2 => ?_
    have:=hI i h1
    rw[aW,aW,aQ h1,aQ h2]at this
    exact this
   rw[this]at h;exact h
 ·rw[aB (by simp;omega)]
  have:decide (a=b)=false:=by
   simp only[fB]
   intro hab;exact e (by rw[hab])
  rw[this]at h;exact h
theorem OR {a b:List Int}{Q:Bool->Prop}(hl:a.length<=1000000000000000)(h:Q (decide (a=b))):jS a b Q:=⟨aC1 hl h⟩
theorem dD {a:T3}(h:bB a=true):a.1.length<=4/\a.2.2.length<=8192/\1<=a.1.length/\1<=a.1.getD 0 0/\a.1.getD 0 0<=4096:=by
 obtain⟨h1,h2,_⟩:=lN.1 h
 obtain⟨h3,h4,_⟩:=tP h1
 have h5:=HM a.1
 refine⟨h3.2,by omega,h3.1,?_⟩
 match hA:a.1 with
 | []=>rw[hA]at h3;simp at h3
 | x::l=>exact h4 x (by rw[hA];simp)
def HX (t:T3)(d:List Int):T3×Int :=
 if bB t=true/\0<szF d then(if szF d=(t.2.2.length:Int)then((d,t.2.1,t.2.2),0)else(([],0,[]),2))else(([],0,[]),1)
theorem aHk {t:T3}{d:List Int}{Q:T3×Int->Prop}(hd:d.length<=17592186044416)(h:Q (HX t d)):MD t d Q:=by
 refine⟨qD ?_⟩
 unfold jn
 dsimp only
 unfold HX at h
 cases hm:bB t with
 | false =>
   rw[aA (by rw[hm];simp)]at h
   rw[aB (by rfl),aB (by rfl)]
   exact h
 | true =>
   rw[aA (by simp)]
   refine PB ?_
   by_cases hs:0<szF d
   ·rw[aB ⟨hm,hs⟩]at h
    rw[aF hs,aA (by simp)]
    refine OG ?_
    by_cases he:szF d=(t.2.2.length:Int)
    ·rw[aB he]at h
     rw[aA (by simp[he])]
     refine BD hd (aGJ ?_ h)
     have:=(dD hm).2.1
     omega
    ·rw[aA he]at h
     rw[aB (by simpa using he)]
     exact h
   ·rw[aA (fun hh=>hs hh.2)]at h
    rw[kG hs,aB (by rfl)]
    exact h
def aCk (t:T3):T3×Int:=if bB t=true then HX t [t.1.getD 0 0,i64.wrap ((szF t.1).tdiv (t.1.getD 0 0))]else(([],0,[]),1)
theorem aMk {t:T3}{Q:T3×Int->Prop}(h:Q (aCk t)):V6 t Q:=by
 refine⟨qD ?_⟩
 unfold aCk at h
 cases hm:bB t with
 | false =>
   rw[aA (by rw[hm];simp)]at h
   rw[aB (by rfl)]
   exact h
 | true =>
   rw[aB hm]at h
   rw[aA (by simp)]
   obtain⟨h1,h2,h3,h4,h5⟩:=dD hm
   refine⟨by omega,OG ⟨by omega,⟨by omega,aHk (by simp) ?_⟩⟩⟩
   exact h
def aDM (t:T3):T3×Int:=if bB t=true then((t.1,t.2.1,t.2.2.map (aO 0)),0)else(([],0,[]),1)
theorem aNU {t:T3}{Q:T3×Int->Prop}(h:Q (aDM t)):WS t Q:=by
 refine⟨qD ?_⟩
 unfold aDM at h
 cases hm:bB t with
 | false =>
   rw[aA (by rw[hm];simp)]at h
   rw[aB (by rfl)]
   exact h
 | true =>
   rw[aB hm]at h
   rw[aA (by simp)]
   obtain⟨h1,h2,_⟩:=dD hm
   refine⟨BD (by omega) ⟨?_⟩⟩
   try dsimp only
   refine Loop.range (B:=iR t.1 t.2.1 t.2.2 (t.2.2.length:Int) _) t.2.2.length (fun i=>((i:Int),(t.2.2.take i).map (aO 0))) (fun _=>True) trivial ?_ ?_
   ·intro i hi _ X hX
    unfold iR
    dsimp only
    rw[aB (aF (show(i:Int)<(t.2.2.length:Int) by omega))]
    refine⟨⟨by omega,?_⟩⟩
    rw[bJ]
    refine⟨by simp;omega,?_⟩
    rw[aC _]
    have e:(t.2.2.take i).map (aO 0)++[aO 0 (t.2.2.getD i 0)]=(t.2.2.take (i+1)).map (aO 0):=by
     rw[WT,aW,aQ hi,uM]
     rfl
    rw[e]
    exact hX trivial
   ·intro _ X
    unfold iR
    dsimp only
    rw[aA (by simp),rJ]
    exact h
def aCH (a b:T3):Int:=aO (aV a.2.1 b.2.1) (i64.wrap (aO a.2.1 b.2.1-12))
def qJ (a b:T3)(i:Nat):Int:=i32.wrap (i64.wrap (alF (i64.wrap (a.2.2.getD i 0)) a.2.1 (aCH a b)+alF (i64.wrap (b.2.2.getD i 0)) b.2.1 (aCH a b)))
def addF (a b:T3):T3×Int :=
 if bB a=true/\bB b=true then(if a.1=b.1 then((a.1,aCH a b,(List.range a.2.2.length).map (qJ a b)),0)else(([],0,[]),2))else(([],0,[]),1)
theorem aKH {a b:T3}{Q:T3×Int->Prop}(h:Q (addF a b)):UU a b Q:=by
 refine⟨qD ?_⟩
 unfold jn
 dsimp only
 unfold addF at h
 cases hm:bB a with
 | false =>
   rw[aA (by rw[hm];simp)]at h
   rw[aB (by rfl),aB (by rfl)]
   exact h
 | true =>
   rw[aA (by simp)]
   refine qD ?_
   cases hn:bB b with
   | false =>
     rw[aA (by rw[hn];simp)]at h
     rw[aB (by rfl)]
     exact h
   | true =>
     rw[aB ⟨hm,hn⟩]at h
     rw[aA (by simp)]
     obtain⟨h1,h2,_⟩:=dD hm
     obtain⟨k1,k2,_⟩:=dD hn
     refine OR (by omega) ?_
     by_cases he:a.1=b.1
     ·rw[aB he]at h
      rw[aF he,aA (by simp)]
      have hlen:a.2.2.length=b.2.2.length:=by
       have q1:=(lN.1 hm).2.1
       have q2:=(lN.1 hn).2.1
       rw[he]at q1
       omega
      refine BD (by omega) ⟨?_⟩
      refine Loop.range (B:=D3 (a.2.2.length:Int) a.2.1 a.2.2 b.2.1 b.2.2 (aCH a b) _) a.2.2.length (fun i=>((i:Int),(List.range i).map (qJ a b))) (fun _=>True) trivial ?_ ?_
      ·intro i hi _ X hX
       unfold D3
       dsimp only
       rw[aB (aF (show(i:Int)<(a.2.2.length:Int) by omega))]
       refine⟨by omega,?_⟩
       rw[bJ]
       refine aLa ⟨by omega,aLa ⟨by simp;omega,?_⟩⟩
       rw[aC ((i:Int)+1)]
       have e:(List.range i).map (qJ a b)++[qJ a b i]=(List.range (i+1)).map (qJ a b):=by
        rw[sV,uM];rfl
       have:=hX trivial
       rw[<- e]at this
       exact this
      ·intro _ X
       unfold D3
       dsimp only
       rw[aA (by simp)]
       exact h
     ·rw[aA he]at h
      rw[kG he,aB (by rfl)]
      exact h
abbrev Lay:=Int×Int×Int×Int×Int×Int×Bool
abbrev Mdl:=(Int×Int×Int)×List Lay
abbrev cA:Lay:=(0,0,0,0,0,0,false)
theorem RF {a lo hi:Int}{Q:Bool->Prop}(h:Q (inP a lo hi)):sG a lo hi Q:=⟨h⟩
def uW (a:Int×Int×Int):Bool:=(inP a.1 1 8&&inP a.2.1 1 16)&&inP a.2.2 1 16
theorem aJ7 {a:Int×Int×Int}{Q:Bool->Prop}(h:Q (uW a)):KI a Q:=by
 refine⟨RF ?_⟩
 unfold jn
 dsimp only
 unfold uW at h
 cases h1:inP a.1 1 8 with
 | false=>rw[h1]at h;rw[aA (by simp),aA (by simp)];exact h
 | true =>
   rw[h1]at h
   rw[aB rfl]
   refine RF ?_
   cases h2:inP a.2.1 1 16 with
   | false=>rw[h2]at h;rw[aA (by simp)];exact h
   | true=>rw[h2]at h;rw[aB rfl];exact RF h
def aGs (x:Lay):Bool:=inP x.2.2.1 1 5&&inP x.2.2.2.1 1 4
theorem aJ3 {x:Lay}{Q:Bool->Prop}(h:Q (aGs x)):DM x Q:=by
 refine⟨RF ?_⟩
 unfold jn
 dsimp only
 unfold aGs at h
 cases h1:inP x.2.2.1 1 5 with
 | false=>rw[h1]at h;rw[aA (by simp)];exact h
 | true=>rw[h1]at h;rw[aB rfl];exact RF h
def vG (x:Lay)(n:Int):Bool :=
 if x.1=1 then inP x.2.1 1 4096&&((x.2.2.1==0)&&((x.2.2.2.1==0)&&((x.2.2.2.2.1==0)&&(x.2.2.2.2.2.1==0))))
 else if x.1=2 then((inP x.2.1 1 8&&aGs x)&&inP x.2.2.2.2.1 0 (i64.wrap (x.2.2.1-1)))&&(x.2.2.2.2.2.1==0)
 else if x.1=3\/x.1=4 then aGs x&&((x.2.1==0)&&((x.2.2.2.2.1==0)&&((x.2.2.2.2.2.1==0)&&(x.2.2.2.2.2.2==false))))
 else if x.1=5\/x.1=6 then(x.2.1==0)&&((x.2.2.1==0)&&((x.2.2.2.1==0)&&((x.2.2.2.2.1==0)&&((x.2.2.2.2.2.1==0)&&(x.2.2.2.2.2.2==false)))))
 else if x.1=7 then inP x.2.2.2.2.2.1 0 (i64.wrap (n-1))&&((x.2.1==0)&&((x.2.2.1==0)&&((x.2.2.2.1==0)&&((x.2.2.2.2.1==0)&&(x.2.2.2.2.2.2==false)))))
 else false
theorem aCJ {K:Unit->Prop}(h:K ()):uQ K:=⟨h⟩
theorem aNi {x:Lay}{n:Int}{Q:Bool->Prop}(h:Q (vG x n)):WQ x n Q:=by
 obtain⟨kd,ou,k,st,pd,fr,fz⟩:=x
 refine⟨?_⟩
 dsimp only
 unfold vG at h
 dsimp only at h
 by_cases h1:kd=1
 ·rw[aB h1]at h
  rw[aB (by simpa using h1)]
  refine RF (aCJ ?_)
  refine cast (congrArg Q ?_) h
  simp
 rw[aA h1]at h
 rw[aA (by simpa using h1)]
 by_cases h2:kd=2
 ·rw[aB h2]at h
  rw[aB (by simpa using h2)]
  refine RF ?_
  unfold jn
  dsimp only
  cases e1:inP ou 1 8 with
  | false =>
    rw[e1]at h
    rw[aA (by simp),aA (by simp)]
    refine aCJ (cast (congrArg Q ?_) h)
    simp
  | true =>
    rw[e1]at h
    rw[aB rfl]
    refine aJ3 ?_
    cases e2:aGs (kd,ou,k,st,pd,fr,fz)with
    | false =>
      rw[e2]at h
      rw[aA (by simp)]
      refine aCJ (cast (congrArg Q ?_) h)
      simp
    | true =>
      rw[e2]at h
      rw[aB rfl]
      refine RF (aCJ (cast (congrArg Q ?_) h))
      simp
 rw[aA h2]at h
 rw[aA (by simpa using h2)]
 have fin:∀ {b:Bool} {k' st' fr':Int},(b&&((kd==kd)&&((ou==0)&&((k==k')&&((st==st')&&((pd==0)&&((fr==fr')&&((fz==false)&&(true)))))))))
  = (b&&((ou==0)&&((k==k')&&((st==st')&&((pd==0)&&((fr==fr')&&(fz==false))))))):=by
  intro b k' st' fr'
  simp
 by_cases h3:kd=3
 ·rw[aB (.inl h3)]at h
  rw[aB (by simpa using h3)]
  refine⟨?_⟩
  rw[aB (by simpa using h3)]
  refine aJ3 (aCJ (cast (congrArg Q ?_) h))
  rw[fin]
  simp
 rw[aA (by simpa using h3)]
 refine⟨?_⟩
 by_cases h4:kd=4
 ·rw[aB (.inr h4)]at h
  rw[aB (by simpa using h4)]
  refine aJ3 (aCJ (cast (congrArg Q ?_) h))
  rw[fin]
  simp
 rw[aA (by omega)]at h
 rw[aA (by simpa using h4)]
 by_cases h5:kd=5
 ·rw[aB (.inl h5)]at h
  rw[aB (by simpa using h5)]
  refine⟨?_⟩
  rw[aB (by simpa using h5)]
  refine aCJ (cast (congrArg Q ?_) h)
  rw[fin]
  simp
 rw[aA (by simpa using h5)]
 refine⟨?_⟩
 by_cases h6:kd=6
 ·rw[aB (.inr h6)]at h
  rw[aB (by simpa using h6)]
  refine aCJ (cast (congrArg Q ?_) h)
  rw[fin]
  simp
 rw[aA (by omega)]at h
 rw[aA (by simpa using h6)]
 by_cases h7:kd=7
 ·rw[aB h7]at h
  rw[aB (by simpa using h7)]
  refine RF (aCJ (cast (congrArg Q ?_) h))
  rw[fin]
  simp
 ·rw[aA h7]at h
  rw[aA (by simpa using h7)]
  refine aCJ (cast (congrArg Q ?_) h)
  simp
def Q6 (l:List Lay):Bool:=(List.range l.length).all fun i=>vG (l.getD i cA) i
def zM (m:Mdl):Bool:=(uW m.1&&inP (m.2.length:Int) 1 12)&&Q6 m.2
theorem aNT {m:Mdl}{Q:Bool->Prop}(hl:m.2.length<=10000000000000)(h:Q (zM m)):VF m Q:=by
 refine⟨aJ7 ?_⟩
 unfold jn
 dsimp only
 unfold zM at h
 cases h1:uW m.1 with
 | false =>
   rw[h1]at h
   rw[aB (by rfl),aB rfl]
   exact h
 | true =>
   rw[h1]at h
   rw[aA (by simp)]
   refine RF ?_
   cases h2:inP (m.2.length:Int) 1 12 with
   | false =>
     rw[h2]at h
     rw[aB (by rfl)]
     exact h
   | true =>
     rw[h2]at h
     rw[aA (by simp)]
     simp only[E1]at h
     refine⟨?_⟩
     refine Loop.range (B:=yZ m.2 (m.2.length:Int) (fun _=>Q true) (fun _=>Q false)) m.2.length (fun i=>(i:Int)) (fun i=>∀ j,j<i->vG (m.2.getD j cA) j=true) (fun j hj=>absurd hj (by omega)) ?_ ?_
     ·intro i hi hI X hX
      unfold yZ
      rw[aB (aF (show(i:Int)<(m.2.length:Int) by omega))]
      refine⟨by omega,aNi ?_⟩
      simp only[Int.toNat_natCast]
      show if (!vG (m.2.getD i cA) i)=true then _ else _
      cases hb:vG (m.2.getD i cA) i with
      | true =>
        rw[aA (by simp),aC _]
        refine hX fun j hj => ?_
        by_cases hji:j=i
        ·subst hji;exact hb
        ·exact hI j (by omega)
      | false =>
        rw[aB (by rfl)]
        have:Q6 m.2=false:=by
         unfold Q6
         rw[VR]
         exact⟨i,List.mem_range.2 hi,by rw[hb];simp⟩
        rw[this]at h
        exact h
     ·intro hI X
      unfold yZ
      rw[aA (by simp)]
      have:Q6 m.2=true:=by
       unfold Q6
       rw[jF]
       intro j hj
       exact hI j (List.mem_range.1 hj)
      rw[this]at h
      exact h
theorem nP {m:Mdl}(h:zM m=true):((1<=m.1.1/\m.1.1<=8)/\(1<=m.1.2.1/\m.1.2.1<=16)/\(1<=m.1.2.2/\m.1.2.2<=16))/\(1<=m.2.length/\m.2.length<=12)/\∀ i,i<m.2.length->vG (m.2.getD i cA) i=true:=by
 unfold zM uW inP at h
 simp only[aK,aT]at h
 refine⟨⟨h.1.1.1.1,h.1.1.1.2,h.1.1.2⟩,by omega,fun i hi => ?_⟩
 have:=h.2
 unfold Q6 at this
 rw[jF]at this
 exact this i (List.mem_range.2 hi)
def yQ (l:List Int):Int:=l.foldl (fun a x=>i64.wrap (a*x)) 1
theorem V2 {l:List Int}{Q:Int->Prop}(hl:l.length<=10000000000000)(h:Q (yQ l)):sP l Q:=by
 refine⟨⟨?_⟩⟩
 refine Loop.range (B:=rL l (l.length:Int) _) l.length (fun i=>(yQ (l.take i),(i:Int))) (fun _=>True) trivial ?_ ?_
 ·intro i hi _ X hX
  unfold rL
  dsimp only
  rw[aB (aF (show(i:Int)<(l.length:Int) by omega))]
  refine⟨by omega,?_⟩
  rw[bJ,aC ((i:Int)+1)]
  have e:yQ (l.take (i+1))=i64.wrap (yQ (l.take i)*l.getD i 0):=by
   unfold yQ
   rw[WT,S3,aW,aQ hi]
   rfl
  rw[<- e]
  exact hX trivial
 ·intro _ X
  unfold rL
  dsimp only
  rw[aA (by simp),rJ]
  exact h
def oL (d:List Int)(c:Int)(x:Lay):List Int :=
 if d.length=3 then(if bA (d.getD 1 0) x.2.2.1 x.2.2.2.1 x.2.2.2.2.1=0\/bA (d.getD 2 0) x.2.2.1 x.2.2.2.1 x.2.2.2.2.1=0 then []else [c,bA (d.getD 1 0) x.2.2.1 x.2.2.2.1 x.2.2.2.2.1,bA (d.getD 2 0) x.2.2.1 x.2.2.2.1 x.2.2.2.2.1])else []
theorem aKv {d:List Int}{c:Int}{x:Lay}{Q:List Int->Prop}(h:Q (oL d c x)):uX d c x Q:=by
 refine⟨?_⟩
 unfold oL at h
 by_cases h3:d.length=3
 ·rw[aB h3]at h
  rw[aA (by simp[h3])]
  refine⟨by omega,RQ ⟨by omega,RQ ?_⟩⟩
  by_cases hz:bA (d.getD 1 0) x.2.2.1 x.2.2.2.1 x.2.2.2.2.1=0\/bA (d.getD 2 0) x.2.2.1 x.2.2.2.1 x.2.2.2.2.1=0
  ·rw[aB hz]at h
   rw[aB (by simpa using hz)]
   exact h
  ·rw[aA hz]at h
   rw[aA (by simpa using hz)]
   exact⟨by simp,h⟩
 ·rw[aA h3]at h
  rw[aB (by simp;omega)]
  exact h
def gH (x:Lay)(l:List (List Int))(d:List Int):List Int :=
 if x.1=1 then(if d.length=1 then [x.2.1]else [])
 else if x.1=2 then oL d x.2.1 x
 else if x.1=3\/x.1=4 then oL d (d.getD 0 0) x
 else if x.1=5 then d
 else if x.1=6 then [yQ d]
 else if x.1=7 then(if l.getD x.2.2.2.2.2.1.toNat []=d then d else [])
 else []
theorem aL0 {x:Lay}{l:List (List Int)}{Q:List Int->Prop}(hl:l≠[])(hn:l.length<=1000000)(hd:(l.getD (l.length-1) [])≠[])(hb:∀ d∈l,d.length<=1000000)(hx:x.1=7->0<=x.2.2.2.2.2.1/\x.2.2.2.2.2.1<(l.length:Int))
 (h:Q (gH x l (l.getD (l.length-1) []))):PK x l Q:=by
 have hlen:1<=l.length:=List.length_pos_iff.2 hl
 have hw:i64.wrap ((l.length:Int)-1)=((l.length-1:Nat):Int):=by rw[aC _];omega
 have hdb:(l.getD (l.length-1) []).length<=1000000:=by
  rw[aW,aQ (by omega)]
  exact hb _ (fZ _)
 refine⟨?_⟩
 rw[hw]
 simp only[Int.toNat_natCast]
 refine⟨by omega,?_⟩
 obtain⟨d,hde⟩:∃ d,l.getD (l.length-1) []=d:=⟨_,rfl⟩
 simp only[hde]at h hd hdb⊢
 have hd0:0<(d.length:Int):=by have:=List.length_pos_iff.2 hd;omega
 have pl:∀ c,Q (oL d c x)->uX d c x (fun r=>nz r (Q []) (ck (r≠[]) (Q r))):=by
  intro c hq
  refine aKv ⟨fun e => ?_,fun e=>⟨e,hq⟩⟩
  rw[e]at hq;exact hq
 unfold gH at h
 by_cases h1:x.1=1
 ·rw[aB h1]at h
  rw[aB (by simpa using h1)]
  by_cases h11:d.length=1
  ·rw[aB h11]at h
   rw[aB (by simp[h11])]
   exact⟨by simp,h⟩
  ·rw[aA h11]at h
   rw[aA (by simp;omega)]
   exact h
 rw[aA h1]at h
 rw[aA (by simpa using h1)]
 by_cases h2:x.1=2
 ·rw[aB h2]at h
  rw[aB (by simpa using h2)]
  exact pl _ h
 rw[aA h2]at h
 rw[aA (by simpa using h2)]
 by_cases h3:x.1=3
 ·rw[aB (.inl h3)]at h
  rw[aB (by simpa using h3),aB (by simpa using h3)]
  exact⟨by omega,pl _ h⟩
 rw[aA (by simpa using h3)]
 by_cases h4:x.1=4
 ·rw[aB (.inr h4)]at h
  rw[aB (by simpa using h4)]
  exact⟨by omega,pl _ h⟩
 rw[aA (by omega)]at h
 rw[aA (by simpa using h4)]
 by_cases h5:x.1=5
 ·rw[aB h5]at h
  rw[aB (by simpa using h5)]
  exact BD (by omega) ⟨hd,h⟩
 rw[aA h5]at h
 rw[aA (by simpa using h5)]
 by_cases h6:x.1=6
 ·rw[aB h6]at h
  rw[aB (by simpa using h6)]
  exact V2 (by omega) ⟨by simp,h⟩
 rw[aA h6]at h
 rw[aA (by simpa using h6)]
 by_cases h7:x.1=7
 ·rw[aB h7]at h
  rw[aB (by simpa using h7)]
  obtain⟨f1,f2⟩:=hx h7
  refine⟨⟨f1,f2⟩,aC1 ?_ ?_⟩
  ·rw[aW,aQ (by omega)]
   have:=hb _ (fZ (l:=l) (n:=x.2.2.2.2.2.1.toNat) (by omega))
   simp only[Option.getD_some]
   omega
  ·by_cases he:l.getD x.2.2.2.2.2.1.toNat []=d
   ·rw[aB he]at h
    rw[aF he,aB rfl]
    exact BD (by omega) ⟨hd,h⟩
   ·rw[aA he]at h
    rw[kG he,aA (by simp)]
    exact h
 ·rw[aA h7]at h
  rw[aA (by simpa using h7)]
  exact h
abbrev Prm:=T3×List Int×T3
abbrev gL:Prm:=(([],0,[]),[],([],0,[]))
def dP:List Lay->Int->List (List Int)->List (List Int)×Int×Int
 | [],_,l=>(l,0,0)
 | x::r,i,l =>
   if gH x l (l.getD (l.length-1) [])=[]then([],i+1,2)
   else if 8192<yQ (gH x l (l.getD (l.length-1) []))then([],i+1,1)
   else dP r (i+1) (l++[gH x l (l.getD (l.length-1) [])])
def inL (m:Mdl):List Int:=[m.1.1,m.1.2.1,m.1.2.2]
def aU (m:Mdl):List (List Int)×Int×Int :=
 if zM m=true then(if 8192<yQ (inL m)then([],0,1)else dP m.2 0 [inL m])else([],0,1)
theorem XO (d:List Int)(c:Int)(x:Lay):(oL d c x).length<=3:=by
 unfold oL
 split
 ·split <;> simp
 ·simp
theorem aB9 {x:Lay}{l:List (List Int)}{d:List Int}(hd:d.length<=3):(gH x l d).length<=3:=by
 unfold gH
 split
 ·split <;> simp
 split
 ·exact XO _ _ _
 split
 ·exact XO _ _ _
 split
 ·exact hd
 split
 ·simp
 split
 ·split
  ·exact hd
  ·simp
 ·simp
theorem MM {x:Lay}{n:Int}(h:vG x n=true)(h7:x.1=7):0<=x.2.2.2.2.2.1/\x.2.2.2.2.2.1<=i64.wrap (n-1):=by
 unfold vG at h
 rw[aA (by omega),aA (by omega),aA (by omega),aA (by omega),aB h7]at h
 unfold inP at h
 simp only[aK,aT]at h
 exact h.1
structure ShOk (l:List (List Int))(n:Nat):Prop where
 len:l.length=n
 ne:∀ d∈l,d≠[]/\d.length<=3
theorem ShOk.last {l:List (List Int)}{n:Nat}(h:ShOk l n)(hn:0<n):l.getD (l.length-1) []∈l:=by
 have:=h.len
 rw[aW,aQ (by omega)]
 exact fZ _
theorem ShOk.at_ {l:List (List Int)}{n:Nat}(h:ShOk l n){i:Nat}(hi:i<n):l.getD i []≠[]/\(l.getD i []).length<=3:=by
 have:=h.len
 rw[aW,aQ (by omega)]
 exact h.ne _ (fZ _)
theorem ShOk.push {l:List (List Int)}{n:Nat}(h:ShOk l n)(hn:0<n){x:Lay}(hg:gH x l (l.getD (l.length-1) [])≠[]):ShOk (l++[gH x l (l.getD (l.length-1) [])]) (n+1) where
 len:=by simp[h.len]
 ne:=fun d hd=>by
  rcases List.mem_append.1 hd with hd|hd
  ·exact h.ne d hd
  ·rw[G6]at hd
   subst hd
   exact⟨hg,aB9 (h.ne _ (h.last hn)).2⟩
theorem aAF {m:Mdl}{Q:List (List Int)×Int×Int->Prop}(hl:m.2.length<=10000000000000)(h:Q (aU m)):yY m Q:=by
 refine⟨aNT hl ?_⟩
 unfold aU at h
 show if (!zM m)=true then _ else _
 by_cases hm:zM m=true
 rotate_left
 ·rw[aA hm]at h
  rw[aB (by simp[hm])]
  exact h
 rw[aB hm]at h
 rw[aA (by simp[hm])]
 obtain⟨hin,hlen,hlay⟩:=nP hm
 refine⟨by simp,V2 (by simp) ?_⟩
 show if decide (8192<yQ (inL m))=true then _ else _
 by_cases hp:8192<yQ (inL m)
 ·rw[aB hp]at h
  rw[aB (aF hp)]
  exact h
 rw[aA hp]at h
 rw[aA (by simpa using hp)]
 refine⟨?_⟩
 obtain⟨z,hz⟩:∃ z,dP m.2 0 [inL m]=z:=⟨_,rfl⟩
 rw[hz]at h
 refine Loop.rangeI (B:=tD m.2 (m.2.length:Int) _ _) m.2.length (fun i s=>s.1=(i:Int)/\ShOk s.2 (i+1)/\dP (m.2.drop i) i s.2=z) ⟨rfl,⟨rfl,fun d hd => ?_⟩,hz⟩ ?_ ?_
 ·rw[G6]at hd
  subst hd
  exact⟨by simp,by simp⟩
 ·rintro i hi ⟨s1,l⟩ ⟨rfl,hsh,hgo⟩ X hX
  dsimp only at hsh hgo
  unfold tD
  dsimp only
  rw[aB (aF (show(i:Int)<(m.2.length:Int) by omega))]
  refine⟨by omega,?_⟩
  simp only[Int.toNat_natCast]
  have hdrop:m.2.drop i=m.2.getD i cA::m.2.drop (i+1):=by
   rw[MK hi,aW,aQ hi];rfl
  rw[hdrop]at hgo
  have hne:l≠[]:=by intro e;have:=hsh.len;rw[e]at this;simp at this
  have hL:=hsh.last (by omega)
  refine aL0 hne (by rw[hsh.len];omega) (hsh.ne _ hL).1 (fun d hd=>by have:=(hsh.ne d hd).2;omega) (fun h7 => ?_) ?_
  ·have:=MM (hlay i hi) h7
   rw[hsh.len]
   rw[aC _]at this
   show 0<=(m.2.getD i cA).2.2.2.2.2.1/\(m.2.getD i cA).2.2.2.2.2.1<_
   omega
  unfold dP at hgo
  show nz (gH (m.2.getD i cA) l (l.getD (l.length-1) [])) _ _
  generalize hg:gH (m.2.getD i cA) l (l.getD (l.length-1) [])=g at hgo⊢
  refine⟨fun e => ?_,fun e=>⟨fun e2=>absurd e2 e,?_⟩⟩
  ·rw[aB e]at hgo
   subst hgo
   rw[aC _]
   exact h
  ·rw[aA e]at hgo
   have hg3:g.length<=3:=by rw[<- hg];exact aB9 (hsh.ne _ hL).2
   refine V2 (by omega) ?_
   by_cases hq:8192<yQ g
   ·rw[aB hq]at hgo
    subst hgo
    rw[aB (aF hq),aC _]
    exact h
   ·rw[aA hq]at hgo
    rw[aA (by simpa using hq)]
    refine⟨by rw[hsh.len];simp;omega,?_⟩
    refine hX _ ⟨by dsimp only;rw[aC _];omega,?_,by dsimp only;exact_mod_cast hgo⟩
    dsimp only
    have:=hsh.push (by omega) (x:=m.2.getD i cA) (by rw[hg];exact e)
    rwa [hg]at this
 ·rintro⟨s1,l⟩ ⟨rfl,hsh,hgo⟩ X
  unfold tD
  dsimp only at hgo⊢
  rw[aA (by simp)]
  rw[SM]at hgo
  unfold dP at hgo
  subst hgo
  exact h
theorem XV:∀ (r:List Lay) (i:Int) (l:List (List Int)) (n:Nat),ShOk l n->0<n->(dP r i l).2.2=0->ShOk (dP r i l).1 (n+r.length)
 | [],i,l,n,h,_,_=>h
 | x::r,i,l,n,h,hn,h0=>by
   unfold dP at h0⊢
   split at h0
   ·cases h0
   ·rename_i hg
    rw[aA hg]
    split at h0
    ·cases h0
    ·rename_i hp
     rw[aA hp]
     have:=XV r (i+1) _ (n+1) (h.push hn hg) (by omega) h0
     rw[SK,show n+(r.length+1)=n+1+r.length by omega]
     exact this
theorem uC {m:Mdl}(h:(aU m).2.2=0):zM m=true/\ShOk (aU m).1 (m.2.length+1):=by
 unfold aU at h⊢
 split at h
 ·rename_i hm
  rw[aB hm]
  split at h
  ·cases h
  ·rename_i hp
   rw[aA hp]
   have:=XV m.2 0 [inL m] 1 ⟨rfl,fun d hd=>by rw[G6]at hd;subst hd;exact⟨by simp[inL],by simp[inL]⟩⟩ (by omega) h
   rw[SI]
   exact⟨hm,this⟩
 ·cases h
def ofF (x:Lay)(d:List Int):List Int×Int :=
 if x.1=1 then([x.2.1,d.getD 0 0],x.2.1)else if x.1=2 then([x.2.1,d.getD 0 0,x.2.2.1,x.2.2.1],x.2.1)else([],0)
def B5 (m:Mdl)(i:Int):List Int×Int :=
 if (((aU m).2.2 != 0)||decide (i<1)||decide ((m.2.length:Int)<i))=true then([],0)
 else if 0<szF (ofF (m.2.getD (i-1).toNat cA) ((aU m).1.getD (i-1).toNat [])).1 then ofF (m.2.getD (i-1).toNat cA) ((aU m).1.getD (i-1).toNat [])else([],0)
theorem aIP:szF []=0:=rfl
theorem aMw {m:Mdl}{i:Int}{Q:List Int×Int->Prop}(hl:m.2.length<=10000000000000)(hd:(B5 m i).1=[]->Q (B5 m i))(h:(B5 m i).1≠[]->Q (B5 m i)):P3 m i Q:=by
 have h:Q (B5 m i):=by
  by_cases e:(B5 m i).1=[]
  ·exact hd e
  ·exact h e
 clear hd
 refine⟨aAF hl ?_⟩
 unfold B5 at h
 by_cases h1:(((aU m).2.2 != 0)||decide (i<1)||decide ((m.2.length:Int)<i))=true
 ·rw[aB h1]at h
  rw[aB h1]
  exact h
 rw[aA h1]at h
 rw[aA h1]
 simp only[cJ,pA,aT,jA,ne_eq,Decidable.not_not]at h1
 obtain⟨hm,hok⟩:=uC h1.1.1
 have hw:i64.wrap (i-1)=i-1:=aC _
 rw[hw]
 have hol:=hok.len
 have hat:=hok.at_ (i:=(i-1).toNat) (by omega)
 refine⟨by omega,by show _/\_<((aU m).1.length:Int);omega,?_⟩
 show WU (m.2.getD (i-1).toNat cA) ((aU m).1.getD (i-1).toNat []) _
 generalize m.2.getD (i-1).toNat cA=x at h⊢
 generalize (aU m).1.getD (i-1).toNat []=d at h hat⊢
 have hd0:0<(d.length:Int):=by have:=List.length_pos_iff.2 hat.1;omega
 have fin:∀ r:List Int×Int,r.1≠[]->r.1.length<=4->Q (if 0<szF r.1 then r else([],0))->nz r.1 (kM [] fun r3=>if (!r3)=true then Q ([],0)else Q ([],r.2)) (kM r.1 fun r3=>if (!r3)=true then Q ([],0)else ck (r.1≠[]) (Q (r.1,r.2))):=by
  intro r hr hr4 hq
  refine⟨fun e=>absurd e hr,fun e=>PB ?_⟩
  by_cases hs:0<szF r.1
  ·rw[aB hs]at hq
   rw[aF hs,aA (by simp)]
   exact⟨hr,hq⟩
  ·rw[aA hs]at hq
   rw[kG hs,aB (by rfl)]
   exact hq
 refine⟨?_⟩
 unfold ofF at h
 by_cases k1:x.1=1
 ·simp only[aB k1]at h
  rw[aB (by simpa using k1)]
  exact⟨by omega,by simp,fin ([x.2.1,d.getD 0 0],x.2.1) (by simp) (by simp) h⟩
 simp only[aA k1]at h
 rw[aA (by simpa using k1)]
 by_cases k2:x.1=2
 ·simp only[aB k2]at h
  rw[aB (by simpa using k2)]
  exact⟨by omega,by simp,fin ([x.2.1,d.getD 0 0,x.2.2.1,x.2.2.1],x.2.1) (by simp) (by simp) h⟩
 ·simp only[aA k2]at h
  rw[aA (by simpa using k2)]
  refine⟨fun _=>PB ?_,fun e=>absurd rfl e⟩
  rw[aIP,aB (by rfl)]
  rw[aIP,aA (by omega)]at h
  exact h
def sU (a:Int):Bool:=decide (a < -1048576)||decide (1048576<a)
theorem aLW {a:Int}{Q:Bool->Prop}(h:Q (sU a)):MH a Q:=⟨h⟩
theorem aHZ {l:List Int}{Q:Bool->Prop}(hl:l.length<=10000000000000)(h:Q (l.any sU)):bU l Q:=by
 refine⟨⟨⟨?_⟩⟩⟩
 refine Loop.range (B:=cL l (l.length:Int) _ _) l.length (fun i=>(i:Int)) (fun i=>∀ j,j<i->sU (l.getD j 0)=false) (fun j hj=>absurd hj (by omega)) ?_ ?_
 ·intro i hi hI X hX
  unfold cL
  rw[aB (aF (show(i:Int)<(l.length:Int) by omega))]
  refine⟨by omega,aLW ?_⟩
  simp only[Int.toNat_natCast]
  cases hb:sU (l.getD i 0)with
  | true =>
    rw[aB rfl]
    have:l.any sU=true:=by
     rw[HQ]
     refine⟨l[i],fZ _,?_⟩
     rw[aW,aQ hi]at hb
     exact hb
    rw[this]at h
    rw[aF (show(0:Int)<=(i:Int) by omega)]
    exact h
  | false =>
    rw[aA (by simp),aC _]
    refine hX fun j hj => ?_
    by_cases hji:j=i
    ·subst hji;exact hb
    ·exact hI j (by omega)
 ·intro hI X
  unfold cL
  rw[aA (by simp)]
  have:l.any sU=false:=by
   rw[OE]
   intro x hx
   obtain⟨j,hj,rfl⟩:=List.mem_iff_getElem.1 hx
   have:=hI j hj
   rw[aW,aQ hj]at this
   simpa using this
  rw[this]at h
  exact h
def XJ (p:Prm):Bool :=
 (((i64.wrap ((i64.wrap ((i64.wrap ((i64.wrap ((p.1.1.length:Int)+(p.1.2.2.length:Int)))+(p.2.1.length:Int)))+(p.2.2.1.length:Int)))+(p.2.2.2.2.length:Int)))==0)&&(p.1.2.1==0))&&(p.2.2.2.1==0)
def okP (x:Lay)(dn:List Int×Int)(p:Prm):Bool :=
 if dn.1=[]then(XJ p && !(x.1==1)) && !(x.1==2)
 else((((bB p.1&&bB p.2.2)&&decide (p.1.1=dn.1))&&decide (p.2.2.1=[dn.2]))&&((p.2.1.length:Int)==(p.1.2.2.length:Int))) && !(p.2.1.any sU)
def TH (m:Mdl)(l:List Prm):Bool:=(List.range l.length).all fun i=>okP (m.2.getD i cA) (B5 m ((i:Int)+1)) (l.getD i gL)
def zU (m:Mdl)(l:List Prm):Bool:=(((aU m).2.2==0)&&((l.length:Int)==(m.2.length:Int)))&&TH m l
theorem aOO {x:Lay}{dn:List Int×Int}{p:Prm}{s:Int}{A B:Prop}(hA:okP x dn p=true->A)(hB:okP x dn p=false->B){nx:Int->Prop}(hn:nx (i64.wrap (s+1))=A){K1:Unit->Prop}(hK:K1 ()=B) :
 nz dn.1 (tW p (fun(r3:Bool)=>if (((!r3)||(x.1==1))||(x.1==2))=true then K1 ()else jE s (fun y4=>nx y4)))
  (nq dn.1 (tW p (fun(r3:Bool)=>if (((!r3)||(x.1==1))||(x.1==2))=true then K1 ()else jE s (fun y4=>nx y4)))
   (cS p.1 (fun(r7:Bool)=>jn (fun(v8:Bool)=>jn (fun(v11:Bool)=>jn (fun(v14:Bool)=>jn (fun(v17:Bool)=>if v17=true then K1 ()else jE s (fun y20=>nx y20)) (fun J18=>if (v14||((p.2.1.length:Int) != (p.1.2.2.length:Int)))=true then J18 true else bU p.2.1 (fun(r19:Bool)=>J18 r19))) (fun J15=>if v11=true then J15 true else jS p.2.2.1 [dn.2] (fun(r16:Bool)=>J15 (!r16)))) (fun J12=>if v8=true then J12 true else jS p.1.1 dn.1 (fun(r13:Bool)=>J12 (!r13)))) (fun J9=>if (!r7)=true then J9 true else cS p.2.2 (fun(r10:Bool)=>J9 (!r10)))))):=by
 subst hn hK
 unfold okP at hA hB
 refine⟨fun e => ?_,fun e=>⟨fun e2=>absurd e2 e,qD ?_⟩⟩
 ·rw[aB e]at hA hB
  refine⟨?_⟩
  show if (((!XJ p)||(x.1==1))||(x.1==2))=true then K1 ()else _
  cases h1:((XJ p && !(x.1==1)) && !(x.1==2))with
  | true =>
    have:=hA h1
    rw[aA (by simpa [and_assoc] using h1)]
    exact⟨this⟩
  | false =>
    rw[aB]
    ·exact hB h1
    ·revert h1
     cases XJ p <;> cases (x.1==1) <;> cases (x.1==2) <;> simp
 ·rw[aA e]at hA hB
  unfold jn
  dsimp only
  have no:(((((bB p.1&&bB p.2.2)&&decide (p.1.1=dn.1))&&decide (p.2.2.1=[dn.2]))&&((p.2.1.length:Int)==(p.1.2.2.length:Int))) && !(p.2.1.any sU))=false->K1 ():=hB
  cases m1:bB p.1 with
  | false =>
    rw[m1]at no
    simp only[RZ,MU,bO]
    exact no (by simp)
  | true =>
    rw[aA (by simp)]
    refine qD ?_
    cases m2:bB p.2.2 with
    | false =>
      rw[m2]at no
      simp only[RZ,MU,bO]
      exact no (by simp)
    | true =>
      rw[aA (by simp)]
      obtain⟨l1,l2,_⟩:=dD m1
      obtain⟨k1,k2,_⟩:=dD m2
      refine OR (by omega) ?_
      by_cases e1:p.1.1=dn.1
      rotate_left
      ·rw[kG e1]
       simp only[RZ,MU,bO]
       exact no (by simp[e1])
      rw[aF e1,aA (by simp)]
      refine OR (by omega) ?_
      by_cases e2:p.2.2.1=[dn.2]
      rotate_left
      ·rw[kG e2]
       simp only[RZ,MU,bO]
       exact no (by simp[e2])
      rw[aF e2]
      by_cases e3:p.2.1.length=p.1.2.2.length
      rotate_left
      ·rw[aB (by simp;omega),aB rfl]
       refine no ?_
       have:((p.2.1.length:Int)==(p.1.2.2.length:Int))=false:=by simp;omega
       rw[this]
       simp
      rw[aA (by simp[e3])]
      refine aHZ (by omega) ?_
      cases hg:p.2.1.any sU with
      | true =>
        rw[aB rfl]
        exact no (by rw[hg];simp)
      | false =>
        rw[aA (by simp)]
        refine⟨hA ?_⟩
        rw[m1,m2,aF e1,aF e2,hg]
        simp[e3]
theorem aJ8 {m:Mdl}{l:List Prm}{Q:Bool->Prop}(hl:m.2.length<=10000000000000)(h:Q (zU m l)):KD m l Q:=by
 refine⟨aAF hl ?_⟩
 unfold zU at h
 show if (((aU m).2.2 != 0)||((l.length:Int) != (m.2.length:Int)))=true then Q false else _
 by_cases h1:(aU m).2.2=0/\l.length=m.2.length
 rotate_left
 ·have e:(((aU m).2.2==0)&&((l.length:Int)==(m.2.length:Int)))=false:=by
   rw[WC]
   intro hh
   simp only[aK,dR]at hh
   exact h1 ⟨hh.1,by omega⟩
  rw[e]at h
  rw[aB]
  ·exact h
  ·simp only[cJ,pA,ne_eq]
   by_cases e1:(aU m).2.2=0
   ·right;intro e2;exact h1 ⟨e1,by omega⟩
   ·exact .inl e1
 have e:(((aU m).2.2==0)&&((l.length:Int)==(m.2.length:Int)))=true:=by simp[h1.1,h1.2]
 rw[e,E1]at h
 rw[aA (by simp[h1.1,h1.2])]
 obtain⟨hm,hok⟩:=uC h1.1
 have hlen:=(nP hm).2.1
 refine⟨?_⟩
 refine Loop.range (B:=xG l (l.length:Int) m.1.1 m.1.2.1 m.1.2.2 m.2 (fun _=>Q true) (fun _=>Q false)) l.length (fun i=>(i:Int)) (fun i=>∀ j,j<i->okP (m.2.getD j cA) (B5 m ((j:Int)+1)) (l.getD j gL)=true) (fun j hj=>absurd hj (by omega)) ?_ ?_
 ·intro i hi hI X hX
  unfold xG
  rw[aB (aF (show(i:Int)<(l.length:Int) by omega))]
  simp only[Int.toNat_natCast]
  have hw:i64.wrap ((i:Int)+1)=(i:Int)+1:=aC _
  refine⟨by omega,?_⟩
  have hq:∀ d:List Int×Int,d=B5 m ((i:Int)+1)->nz d.1 (ck (aG (i:Int) m.2.length) (tW (l.getD i gL) (fun(r3:Bool)=>if (((!r3)||((m.2.getD i cA).1==1))||((m.2.getD i cA).1==2))=true then Q false else jE (i:Int) (fun y4=>X y4))))
   (nq d.1 (ck (aG (i:Int) m.2.length) (tW (l.getD i gL) (fun(r3:Bool)=>if (((!r3)||((m.2.getD i cA).1==1))||((m.2.getD i cA).1==2))=true then Q false else jE (i:Int) (fun y4=>X y4))))
    (cS (l.getD i gL).1 (fun(r7:Bool)=>jn (fun(v8:Bool)=>jn (fun(v11:Bool)=>jn (fun(v14:Bool)=>jn (fun(v17:Bool)=>if v17=true then Q false else jE (i:Int) (fun y20=>X y20)) (fun J18=>if (v14||(((l.getD i gL).2.1.length:Int) != ((l.getD i gL).1.2.2.length:Int)))=true then J18 true else bU (l.getD i gL).2.1 (fun(r19:Bool)=>J18 r19))) (fun J15=>if v11=true then J15 true else jS (l.getD i gL).2.2.1 [d.2] (fun(r16:Bool)=>J15 (!r16)))) (fun J12=>if v8=true then J12 true else jS (l.getD i gL).1.1 d.1 (fun(r13:Bool)=>J12 (!r13)))) (fun J9=>if (!r7)=true then J9 true else cS (l.getD i gL).2.2 (fun(r10:Bool)=>J9 (!r10)))))):=by
   intro d hd
   have key:=aOO (x:=m.2.getD i cA) (dn:=d) (p:=l.getD i gL) (s:=(i:Int)) (A:=X (i64.wrap ((i:Int)+1))) (B:=Q false) (nx:=X) (K1:=fun _=>Q false) (fun hk=>by
    rw[hw]
    refine hX fun j hj => ?_
    by_cases hji:j=i
    ·subst hji;rw[<- hd];exact hk
    ·exact hI j (by omega)) (fun hk=>by
    have:TH m l=false:=by
     unfold TH
     rw[VR]
     exact⟨i,List.mem_range.2 hi,by rw[<- hd,hk];simp⟩
    rw[this]at h
    exact h) rfl rfl
   exact⟨fun e=>⟨by omega,key.1 e⟩,fun e=>⟨fun e2=>absurd e2 e,(key.2 e).2⟩⟩
  rw[hw]
  exact aMw hl (fun _=>hq _ rfl) (fun _=>hq _ rfl)
 ·intro hI X
  unfold xG
  rw[aA (by simp)]
  have:TH m l=true:=by
   unfold TH
   rw[jF]
   intro j hj
   exact hI j (List.mem_range.1 hj)
  rw[this]at h
  exact h
theorem aHp {a lo hi:Int}{Q:Bool->Prop}(h:Q (inP a lo hi)):AQ a lo hi Q:=⟨h⟩
def YK (a b c:Int):Int:=if ((inP a 0 1000000&&inP b 0 12)&&inP c 0 15)=true then a*1024+b*16+c else 0
theorem aMY {a b c:Int}{Q:Int->Prop}(h:Q (YK a b c)):uJ a b c Q:=by
 refine⟨aHp ?_⟩
 unfold jn
 dsimp only
 unfold YK at h
 cases h1:inP a 0 1000000 with
 | false =>
   rw[h1]at h
   simp only[RZ,bO]
   exact h
 | true =>
   rw[h1]at h
   rw[aA (by simp)]
   refine aHp ?_
   cases h2:inP b 0 12 with
   | false =>
     rw[h2]at h
     simp only[RZ,bO]
     exact h
   | true =>
     rw[h2]at h
     rw[aA (by simp)]
     refine aHp ?_
     cases h3:inP c 0 15 with
     | false =>
       rw[h3]at h
       rw[aB (by rfl)]
       exact h
     | true =>
       rw[h3,aB (by rfl)]at h
       rw[aA (by simp)]
       unfold inP at h1 h2 h3
       simp only[aK,aT]at h1 h2 h3
       rw[aC (a*1024),aC (b*16),aC (a*1024+b*16),aC _]
       have:u64.wrap (a*1024+b*16+c)=a*1024+b*16+c:=by
        simp only[IntKind.wrap,IntKind.bits,IntKind.signed]
        simp
        omega
       rw[this]
       exact h
def InP (K plane:Nat)(l:List (Int×Int×Int)):Prop:=∀ z∈l,∃ a r c:Nat,z=((a:Int),(r:Int),(c:Int))/\a<plane/\r<K/\c<K
theorem aJk {rows cols cr cc:Int}{k m:Nat}{z:Int×Int×Int}(h:z∈OB rows cols cr cc k m):∃ i j:Nat,i<m/\j<k/\(0<=cr+i/\cr+i<=rows-1)/\(0<=cc+j/\cc+j<=cols-1)/\z=((cr+i)*cols+(cc+j),(i:Int),(j:Int)):=by
 unfold OB rH at h
 simp only[List.mem_flatMap,L7]at h
 obtain⟨i,hi,j,hj,hz⟩:=h
 unfold tO at hz
 split at hz
 ·rename_i hin
  simp only[aK]at hin
  refine⟨i,j,hi,hj,by simpa [inP] using hin.1,by simpa [inP] using hin.2,by simpa using hz⟩
 ·simp at hz
theorem aL9 {rows cols:Nat}{cr cc:Int}{k m K:Nat}(hm:m<=K)(hk:k<=K):InP K (rows*cols) (OB rows cols cr cc k m):=by
 intro z hz
 obtain⟨i,j,hi,hj,h1,h2,rfl⟩:=aJk hz
 obtain⟨y,hy⟩:=gN h1.1
 obtain⟨x,hx⟩:=gN h2.1
 refine⟨y*cols+x,i,j,?_,fM (by omega) (by omega),by omega,by omega⟩
 rw[hy,hx,Int.natCast_add,jR]
theorem LX {rows cols K:Nat}{r c s p:Int}:InP K (rows*cols) (fX rows cols r c K s p):=by
 unfold fX
 split
 ·intro z hz;simp at hz
 ·rw[bJ];exact aL9 (aJ _) (aJ _)
theorem GV {rows cols r c s p:Int}{K:Nat}:(fX rows cols r c K s p).length<=K*K:=by
 unfold fX
 split
 ·simp
 ·rw[bJ];exact P6 K
def aE1 (xd wd:List Int)(C plane K m o c:Nat)(z:Int×Int×Int):Int:=xd.getD ((m*C+c)*plane+z.1.toNat) 0*wd.getD (((o*C+c)*K+z.2.1.toNat)*K+z.2.2.toNat) 0
theorem aPC {C K plane m o c n O:Nat}{xd wd:List Int}{l:List (Int×Int×Int)}{t:Int}{K0:Int->Prop}(hx:xd.length=n*C*plane)(hw:wd.length=O*C*K*K)(bx:n*C*plane<=8192)(bw:O*C*K*K<=8192)(ax:All8 xd)(aw:All8 wd)(hm:m<n)(ho:o<O)(hc:c<C)(hl:InP K plane l)(hll:l.length<=1000000)
 (h:K0 (i64.wrap (t+AY l (aE1 xd wd C plane K m o c)))):CV C K plane m o c (l.length:Int) xd wd l K0 (i64.wrap t,0):=by
 refine⟨?_⟩
 have eg:(i64.wrap t,(0:Int))=(fun i:Nat=>(i64.wrap (t+bC (fun i=>aE1 xd wd C plane K m o c (l.getD i (0,0,0))) i),(i:Int))) 0:=by simp[bC]
 rw[eg]
 refine Loop.range (B:=tJ C K plane m o c (l.length:Int) xd wd l K0) (f:=fun i:Nat=>(i64.wrap (t+bC (fun i=>aE1 xd wd C plane K m o c (l.getD i (0,0,0))) i),(i:Int))) l.length (fun _=>True) trivial ?_ ?_
 ·intro i hi _ X hX
  have hX:=hX trivial
  unfold tJ
  rw[aB (aF (show(i:Int)<(l.length:Int) by omega))]
  dsimp only at hX⊢
  refine⟨by omega,?_⟩
  rw[bJ]
  obtain⟨a,r,q,ez,ha,hr,hq⟩:=hl (l.getD i (0,0,0)) (by rw[aW,aQ hi];exact fZ hi)
  have g1:(m*C+c)*plane+a<n*C*plane:=fM (fM hm hc) ha
  have g2:((o*C+c)*K+r)*K+q<O*C*K*K:=fM (fM (fM ho hc) hr) hq
  have g3:m*C+c<n*C:=fM hm hc
  have g4:n*C<=n*C*plane:=bK _ (by omega)
  have g5:(o*C+c)*K+r<O*C*K:=fM (fM ho hc) hr
  have g6:O*C*K<=O*C*K*K:=bK _ (by omega)
  have g7:o*C+c<O*C:=fM ho hc
  have g8:O*C<=O*C*K:=bK _ (by omega)
  have ef:aE1 xd wd C plane K m o c (l.getD i (0,0,0))=xd.getD ((m*C+c)*plane+a) 0*wd.getD (((o*C+c)*K+r)*K+q) 0:=by
   unfold aE1;rw[ez];simp only[Int.toNat_natCast]
  simp only[bC,ef]at hX
  rw[ez]
  dsimp only
  rw[ix (r:=m) (n:=C) (i:=c) (by omega),ix (r:=m*C+c) (n:=plane) (i:=a) (by omega),ix (r:=o) (n:=C) (i:=c) (by omega),ix (r:=o*C+c) (n:=K) (i:=r) (by omega),ix (r:=(o*C+c)*K+r) (n:=K) (i:=q) (by omega)]
  refine⟨by omega,by omega,?_⟩
  simp only[Int.toNat_natCast]
  have b1:=ax.at_ ((m*C+c)*plane+a)
  have b2:=aw.at_ (((o*C+c)*K+r)*K+q)
  have b3:=YV b1 b2
  rw[aC (xd.getD ((m*C+c)*plane+a) 0),aC (wd.getD (((o*C+c)*K+r)*K+q) 0) (by omega) (by omega),aC (_*_),aC ((i:Int)+1),U8,vR]
  exact hX
 ·intro _ X
  unfold tJ
  rw[aA (by simp)]
  rw[EB l _ (0,0,0)]at h
  exact h
theorem aPY {C K plane m o n O:Nat}{xd wd:List Int}{l:List (Int×Int×Int)}{t:Int}{K0:Int->Prop}(hx:xd.length=n*C*plane)(hw:wd.length=O*C*K*K)(bx:n*C*plane<=8192)(bw:O*C*K*K<=8192)(ax:All8 xd)(aw:All8 wd)(hm:m<n)(ho:o<O)(hl:InP K plane l)(hll:l.length<=1000000)(hC:C<=10000)
 (h:K0 (i64.wrap (t+bC (fun c=>AY l (aE1 xd wd C plane K m o c)) C))):CL C K plane m o C xd wd l K0 (i64.wrap t,0):=by
 refine⟨?_⟩
 have eg:(i64.wrap t,(0:Int))=(fun i:Nat=>(i64.wrap (t+bC (fun c=>AY l (aE1 xd wd C plane K m o c)) i),(i:Int))) 0:=by simp[bC]
 rw[eg]
 refine Loop.range (B:=tE C K plane m o C xd wd l K0) (f:=fun i:Nat=>(i64.wrap (t+bC (fun c=>AY l (aE1 xd wd C plane K m o c)) i),(i:Int))) C (fun _=>True) trivial ?_ ?_
 ·intro c hc _ X hX
  have hX:=hX trivial
  unfold tE
  rw[aB (aF (show(c:Int)<(C:Int) by omega))]
  dsimp only at hX⊢
  refine aPC hx hw bx bw ax aw hm ho hc hl hll ?_
  rw[aC ((c:Int)+1),vR]
  exact hX
 ·intro _ X
  unfold tE
  rw[aA (by simp)]
  exact h
section
variable {n C O K H V P Q:Nat} {s p:Int} {xd wd bd:List Int} {be e:Int}
def xK (H V C K:Nat)(s p:Int)(xd wd bd:List Int)(be e:Int)(m o y x:Nat):Int:=i32.wrap (alF (bd.getD o 0) be e+bC (fun c=>AY (fX H V y x K s p) (aE1 xd wd C (H*V) K m o c)) C)
structure FwdIn (n C O K H V P Q:Nat)(xd wd bd:List Int):Prop where
 hx:xd.length=n*C*(H*V)
 hw:wd.length=O*C*K*K
 bx:n*C*(H*V)<=8192
 bw:O*C*K*K<=8192
 ax:All8 xd
 aw:All8 wd
 ab:All8 bd
 hb:bd.length=O
 hK:K<=5
 hC:1<=C
 hn:1<=n
 hO:1<=O
 h0:1<=K
 bo:n*O*P*Q<=8192
theorem FwdIn.le {n C O K H V P Q:Nat}{xd wd bd:List Int}(g:FwdIn n C O K H V P Q xd wd bd):C<=8192/\O<=8192:=by
 have h1:=g.bw
 have h2:=g.h0
 have h3:=g.hO
 have h4:=g.hC
 have h5:O*C<=O*C*K:=bK _ h2
 have h6:O*C*K<=O*C*K*K:=bK _ h2
 have h7:C<=O*C:=wB _ h3
 have h8:O<=O*C:=bK _ h4
 omega
theorem aPM (g:FwdIn n C O K H V P Q xd wd bd){C0:Nat->Nat->Nat->Nat->Prop}{L:List Int}{m y x:Nat}{K0:List Int->Prop}(hm:m<n)(hy:y<P)(hx:x<Q)(hL:Fill n O P Q (xK H V C K s p xd wd bd be e) C0 L)
 (h:∀ L',Fill n O P Q (xK H V C K s p xd wd bd be e) (fun m' o' y' x'=>C0 m' o' y' x'\/(m'=m/\y'=y/\x'=x)) L'->K0 L') :
 CG C O K ((H*V:Nat):Int) y x m O xd wd be bd P Q e (fX H V y x K s p) K0 (0,L):=by
 refine⟨?_⟩
 have hle:=g.le
 have hbo:=g.bo
 refine Loop.rangeI (B:=tC C O K ((H*V:Nat):Int) y x m O xd wd be bd P Q e (fX H V y x K s p) K0) O (fun i st=>st.1=(i:Int)/\Fill n O P Q (xK H V C K s p xd wd bd be e) (fun m' o' y' x'=>C0 m' o' y' x'\/(m'=m/\y'=y/\x'=x/\o'<i)) st.2) ⟨rfl,hL.mono fun m' o' y' x' _ _ _ _ hc=>hc.elim id fun h=>absurd h.2.2.2 (by omega)⟩ ?_ ?_
 ·rintro o ho ⟨o',M⟩ ⟨e1,hM⟩ X hX
  simp only at e1 hM
  subst e1
  unfold tC
  rw[aB (aF (show(o:Int)<(O:Int) by omega))]
  dsimp only
  refine⟨by rw[g.hb];omega,?_⟩
  rw[bJ]
  have bb:=g.ab.at_ o
  rw[aC (bd.getD o 0)]
  refine aLa ?_
  have ba:=aEb (b:=be) (c:=e) bb
  have hK:=g.hK
  have hKK:K*K<=5*5:=dE hK hK
  have hwl:=GV (rows:=H) (cols:=V) (r:=y) (c:=x) (s:=s) (p:=p) (K:=K)
  have e0:(alF (bd.getD o 0) be e,(0:Int))=(i64.wrap (alF (bd.getD o 0) be e),(0:Int)):=by rw[aC _]
  rw[e0]
  refine aPY g.hx g.hw g.bx g.bw g.ax g.aw hm ho LX (by omega) (by omega) ?_
  have g1:=EK (P:=P) (Q:=Q) hm ho hy hx
  unfold ix4 at g1
  have g2:m*O+o<=(m*O+o)*P:=bK _ (by omega)
  have g3:(m*O+o)*P+y<=((m*O+o)*P+y)*Q:=bK _ (by omega)
  rw[ix (r:=m) (n:=O) (i:=o) (by omega),ix (r:=m*O+o) (n:=P) (i:=y) (by omega),ix (r:=(m*O+o)*P+y) (n:=Q) (i:=x) (by omega)]
  refine⟨by rw[hM.len];omega,?_⟩
  rw[bJ,aC ((o:Int)+1),aET]
  refine hX _ ⟨by simp,?_⟩
  refine hM.set hm ho hy hx rfl fun m' o' y' x' _ _ _ _ hc => ?_
  rcases hc with hc|⟨c1,c2,c3,c4⟩
  ·exact .inl (.inl hc)
  ·rcases nJ o' o with c5|c5
   ·exact .inl (.inr ⟨c1,c2,c3,c5⟩)
   ·exact .inr ⟨c1,by omega,c2,c3⟩
 ·rintro⟨o',M⟩ ⟨e1,hM⟩ X
  simp only at e1 hM
  subst e1
  unfold tC
  rw[aA (by simp)]
  exact h _ (hM.mono fun m' o' y' x' _ h2 _ _ hc=>hc.elim .inl fun⟨a,b,c⟩ => .inr ⟨a,b,c,h2⟩)
theorem aP1 (g:FwdIn n C O K H V P Q xd wd bd){C0:Nat->Nat->Nat->Nat->Prop}{L:List Int}{y x:Nat}{K0:List Int->Prop}(hn:n<=8192)(hy:y<P)(hx:x<Q)(hL:Fill n O P Q (xK H V C K s p xd wd bd be e) C0 L)
 (h:∀ L',Fill n O P Q (xK H V C K s p xd wd bd be e) (fun m' o' y' x'=>C0 m' o' y' x'\/(y'=y/\x'=x)) L'->K0 L') :
 CI C O K ((H*V:Nat):Int) y x n xd wd be bd P Q e (fX H V y x K s p) K0 (0,L):=by
 refine⟨?_⟩
 refine Loop.rangeI (B:=tA C O K ((H*V:Nat):Int) y x n xd wd be bd P Q e (fX H V y x K s p) K0) n (fun i st=>st.1=(i:Int)/\Fill n O P Q (xK H V C K s p xd wd bd be e) (fun m' o' y' x'=>C0 m' o' y' x'\/(y'=y/\x'=x/\m'<i)) st.2) ⟨rfl,hL.mono fun m' o' y' x' _ _ _ _ hc=>hc.elim id fun h=>absurd h.2.2 (by omega)⟩ ?_ ?_
 ·rintro m hm ⟨m',M⟩ ⟨e1,hM⟩ X hX
  simp only at e1 hM
  subst e1
  unfold tA
  rw[aB (aF (show(m:Int)<(n:Int) by omega))]
  refine aPM g hm hy hx hM fun L' hL' => ?_
  dsimp only
  rw[aC ((m:Int)+1)]
  refine hX _ ⟨by simp,hL'.mono fun m' o' y' x' _ _ _ _ hc => ?_⟩
  rcases hc with hc|⟨c1,c2,c3⟩
  ·exact .inl (.inl hc)
  ·rcases nJ m' m with c5|c5
   ·exact .inl (.inr ⟨c1,c2,c5⟩)
   ·exact .inr ⟨by omega,c1,c2⟩
 ·rintro⟨m',M⟩ ⟨e1,hM⟩ X
  simp only at e1 hM
  subst e1
  unfold tA
  rw[aA (by simp)]
  exact h _ (hM.mono fun m' o' y' x' h2 _ _ _ hc=>hc.elim .inl fun⟨a,b⟩ => .inr ⟨a,b,h2⟩)
theorem aPK (g:FwdIn n C O K H V P Q xd wd bd){C0:Nat->Nat->Nat->Nat->Prop}{L:List Int}{y:Nat}{K0:List Int->Prop}(hn:n<=8192)(hQ:Q<=8192)(hy:y<P)(hL:Fill n O P Q (xK H V C K s p xd wd bd be e) C0 L)
 (h:∀ L',Fill n O P Q (xK H V C K s p xd wd bd be e) (fun m' o' y' x'=>C0 m' o' y' x'\/y'=y) L'->K0 L') :
 CY n C O K ((H*V:Nat):Int) y Q xd wd be bd H V K s p P Q e K0 (0,L):=by
 refine⟨?_⟩
 refine Loop.rangeI (B:=tK n C O K ((H*V:Nat):Int) y Q xd wd be bd H V K s p P Q e K0) Q (fun i st=>st.1=(i:Int)/\Fill n O P Q (xK H V C K s p xd wd bd be e) (fun m' o' y' x'=>C0 m' o' y' x'\/(y'=y/\x'<i)) st.2) ⟨rfl,hL.mono fun m' o' y' x' _ _ _ _ hc=>hc.elim id fun h=>absurd h.2 (by omega)⟩ ?_ ?_
 ·rintro x hx ⟨x',M⟩ ⟨e1,hM⟩ X hX
  simp only at e1 hM
  subst e1
  unfold tK
  rw[aB (aF (show(x:Int)<(Q:Int) by omega))]
  refine⟨?_⟩
  refine PL ?_
  refine aP1 g hn hy hx hM fun L' hL' => ?_
  dsimp only
  rw[aC ((x:Int)+1)]
  refine hX _ ⟨by simp,hL'.mono fun m' o' y' x' _ _ _ _ hc => ?_⟩
  rcases hc with hc|⟨c1,c2⟩
  ·exact .inl (.inl hc)
  ·rcases nJ x' x with c5|c5
   ·exact .inl (.inr ⟨c1,c5⟩)
   ·exact .inr ⟨c1,by omega⟩
 ·rintro⟨x',M⟩ ⟨e1,hM⟩ X
  simp only at e1 hM
  subst e1
  unfold tK
  rw[aA (by simp)]
  exact h _ (hM.mono fun m' o' y' x' _ _ _ h2 hc=>hc.elim .inl fun a => .inr ⟨a,h2⟩)
theorem aPH (g:FwdIn n C O K H V P Q xd wd bd){L:List Int}{K0:List Int->Prop}(hn:n<=8192)(hQ:Q<=8192)(hP:P<=8192)(hL:L.length=n*O*P*Q)
 (h:K0 (VZ n O P Q (xK H V C K s p xd wd bd be e))) :
 CE n C O K ((H*V:Nat):Int) P xd wd be bd H V K s p P Q e K0 (0,L):=by
 refine⟨?_⟩
 refine Loop.rangeI (B:=tS n C O K ((H*V:Nat):Int) P xd wd be bd H V K s p P Q e K0) P (fun i st=>st.1=(i:Int)/\Fill n O P Q (xK H V C K s p xd wd bd be e) (fun m' o' y' x'=>y'<i) st.2) ⟨rfl,hL,fun m' o' y' x' _ _ _ _ hc=>absurd hc (by omega)⟩ ?_ ?_
 ·rintro y hy ⟨y',M⟩ ⟨e1,hM⟩ X hX
  simp only at e1 hM
  subst e1
  unfold tS
  rw[aB (aF (show(y:Int)<(P:Int) by omega))]
  refine aPK g hn hQ hy hM fun L' hL' => ?_
  dsimp only
  rw[aC ((y:Int)+1)]
  refine hX _ ⟨by simp,hL'.mono fun m' o' y' x' _ _ _ _ hc => ?_⟩
  rcases nJ y' y with c5|c5
  ·exact .inl c5
  ·exact .inr (by omega)
 ·rintro⟨y',M⟩ ⟨e1,hM⟩ X
  simp only at e1 hM
  subst e1
  unfold tS
  rw[aA (by simp)]
  rw[hM.all fun _ _ y' _ _ _ hy _=>hy]
  exact h
end
open Go.Mach Go.RowKit
set_option maxRecDepth 100000
set_option linter.unusedVariables false
set_option linter.unusedSimpArgs false
theorem aN7 {l:List Int}(h:(l.length:Int)=4):∃ a b c d,l=[a,b,c,d]:=by
 match l,h with
 | [a,b,c,d],_=>exact⟨a,b,c,d,rfl⟩
 | [],h=>simp at h
 | [_],h=>simp at h
 | [_,_],h=>simp at h
 | [_,_,_],h=>simp at h
 | _::_::_::_::_::r,h=>simp at h;omega
theorem len1 {l:List Int}(h:(l.length:Int)=1):∃ a,l=[a]:=by
 match l,h with
 | [a],_=>exact⟨a,rfl⟩
 | [],h=>simp at h
 | _::_::r,h=>simp at h;omega
theorem MP {l:List T3}(h:lY l=0):∀ t∈l,bB t=true/\(t.1.length:Int)=4:=by
 unfold lY at h
 split at h
 ·split at h
  ·rename_i h1 h2
   intro t ht
   exact⟨List.all_eq_true.1 h1 t ht,by have:=List.all_eq_true.1 h2 t ht;simpa using this⟩
  ·cases h
 ·cases h
theorem S1 {t:T3}(h:bB t=true)(hl:(t.1.length:Int)=4):∃ n m p q:Nat,t.1=[(n:Int),(m:Int),(p:Int),(q:Int)]/\1<=n/\1<=m/\1<=p/\1<=q/\n*m*p*q<=8192/\t.2.2.length=n*m*p*q /\ -64<=t.2.1/\t.2.1<=64:=by
 obtain⟨h1,h2,h3,h4⟩:=lN.1 h
 obtain⟨a,b,c,d,e⟩:=aN7 hl
 rw[e]at h1 h2
 obtain⟨n,m,p,q,rfl,rfl,rfl,rfl,g1,g2,g3,g4,g5,g6⟩:=aBp h1
 rw[g6]at h2
 exact⟨n,m,p,q,e,g1,g2,g3,g4,g5,by omega,h3.1,h3.2⟩
theorem aPQ {t:T3}(h:bB t=true)(hl:(t.1.length:Int)=1):∃ n:Nat,t.1=[(n:Int)]/\1<=n/\n<=4096/\t.2.2.length=n:=by
 obtain⟨h1,h2,h3,h4⟩:=lN.1 h
 obtain⟨a,e⟩:=len1 hl
 rw[e]at h1 h2
 obtain⟨g1,g2,g3⟩:=aKs h1
 obtain⟨n,rfl⟩:=gN (show 0<=a by omega)
 rw[g3]at h2
 exact⟨n,e,by omega,by omega,by omega⟩
theorem lO {n k s p:Int}(h:0<bA n k s p):(1<=n/\n<=16)/\(1<=k/\k<=5)/\(1<=s/\s<=4)/\(0<=p/\p<=k-1)/\k<=n+2*p/\bA n k s p=(n+2*p-k) / s+1:=by
 have hb:=(oC n k s p).2.2 (by omega)
 obtain⟨b1,b2,b3,b4,b5⟩:=LW hb
 refine⟨b1,b2,b3,b4,b5,?_⟩
 unfold bA
 rw[hb,aA (by simp)]
theorem pT {n k s p:Int}:∃ P:Nat,bA n k s p=P/\P<=25:=by
 obtain⟨h1,h2,_⟩:=oC n k s p
 obtain⟨P,e⟩:=gN h1
 exact⟨P,e,by omega⟩
def aDy (x w b:T3)(s p:Int):Bool :=
 (((!(decide (0<bA (x.1.getD 2 0) (w.1.getD 2 0) s p)&&decide (0<bA (x.1.getD 3 0) (w.1.getD 2 0) s p))||(w.1.getD 1 0 != x.1.getD 1 0))||(w.1.getD 3 0 != w.1.getD 2 0))||((b.1.length:Int) != 1))||(b.1.getD 0 0 != w.1.getD 0 0)
def Z9 (x w:T3)(s p:Int):List Int:=[x.1.getD 0 0,w.1.getD 0 0,bA (x.1.getD 2 0) (w.1.getD 2 0) s p,bA (x.1.getD 3 0) (w.1.getD 2 0) s p]
def aM7 (x w:T3):Int:=x.1.getD 1 0*w.1.getD 2 0*w.1.getD 2 0
def aJf (x w b:T3)(s p:Int):Int :=
 if (!bB b)=true then 1
 else if (lY [x,w] != 0)=true then lY [x,w]
 else if aDy x w b s p=true then 2
 else(gQ (Z9 x w s p) (x.2.1+w.2.1) (aM7 x w)).2
def aFx (x w b:T3)(s p:Int):List Int :=
 VZ (x.1.getD 0 0).toNat (w.1.getD 0 0).toNat (bA (x.1.getD 2 0) (w.1.getD 2 0) s p).toNat (bA (x.1.getD 3 0) (w.1.getD 2 0) s p).toNat
  (xK (x.1.getD 2 0).toNat (x.1.getD 3 0).toNat (x.1.getD 1 0).toNat (w.1.getD 2 0).toNat s p x.2.2 w.2.2 b.2.2 b.2.1 (x.2.1+w.2.1))
def aHo (x w b:T3)(s p:Int):T3×Int:=if (aJf x w b s p != 0)=true then(Z3,aJf x w b s p)else((Z9 x w s p,(x.2.1+w.2.1,aFx x w b s p)),0)
theorem ND {a b:Int}:(a != b)=false ↔ a=b:=by simp
theorem aMf {x w b:T3}{s p:Int}{Q:T3×Int->Prop}(ax:All8 x.2.2)(aw:All8 w.2.2)(ab:All8 b.2.2)(hq:Q (aHo x w b s p)):KV x w b s p Q:=by
 refine⟨?_⟩
 refine qD ?_
 unfold aHo aJf at hq
 by_cases h1:(!bB b)=true
 ·rw[aB h1]
  simp only[h1,bO]at hq
  exact hq
 ·rw[aA h1]
  simp only[h1,eA,cB]at hq
  refine aDr (by simp) ?_
  show(if (lY [x,w] != 0)=true then _ else _)
  by_cases h2:(lY [x,w] != 0)=true
  ·rw[aB h2]
   simp only[h2,bO]at hq
   exact hq
  ·rw[aA h2]
   simp only[h2,eA,cB]at hq
   have hz:lY [x,w]=0:=by simpa using h2
   have hzz:=MP hz
   obtain⟨mx,lx⟩:=hzz x (by simp)
   obtain⟨mw,lw⟩:=hzz w (by simp)
   obtain⟨n,C,H,V,ex,x1,x2,x3,x4,x5,x6,x7,x8⟩:=S1 mx lx
   obtain⟨O,C',K,K',ew,w1,w2,w3,w4,w5,w6,w7,w8⟩:=S1 mw lw
   refine⟨by omega,by omega,by omega,by omega,by omega,by omega,aHO ?_⟩
   refine f7 (b := !(decide (0<bA (x.1.getD 2 0) (w.1.getD 2 0) s p)&&decide (0<bA (x.1.getD 3 0) (w.1.getD 2 0) s p))) (c:=w.1.getD 1 0 != x.1.getD 1 0) (fun _ P hp=>⟨by omega,hp⟩) (fun v4 e4 => ?_) rfl
   refine f7 (c:=w.1.getD 3 0 != w.1.getD 2 0) (fun _ P hp=>⟨by omega,hp⟩) (fun v6 e6 => ?_) rfl
   refine f7 (b:=v6||((b.1.length:Int) != 1)) (c:=b.1.getD 0 0 != w.1.getD 0 0) (fun hb P hp=>⟨by simp only[eI,ND]at hb;omega,hp⟩) (fun v8 e8 => ?_) rfl
   have hv:v8=aDy x w b s p:=by rw[e8,e6,e4];rfl
   rw[<- hv]at hq
   cases v8 with
   | true=>exact hq
   | false =>
     rw[aA (by simp)]
     simp only[eA,cB]at hq
     have hv2:=hv.symm
     unfold aDy at hv2
     simp only[eI,ND,xS,aK,aT]at hv2
     obtain⟨⟨⟨⟨⟨o1,o2⟩,c1⟩,c2⟩,c3⟩,c4⟩:=hv2
     obtain⟨O',eb,b1,b2,b3⟩:=aPQ (by simpa using h1) c3
     simp only[ex,ew,eb,List.getD_cons_zero,List.getD_cons_succ]at o1 o2 c1 c2 c4
     have ec:C'=C:=by omega
     have ek:K'=K:=by omega
     have eo:O'=O:=by omega
     subst ec ek eo
     obtain⟨a1,a2,a3,a4,a5,a6⟩:=lO o1
     obtain⟨d1,d2,d3,d4,d5,d6⟩:=lO o2
     obtain⟨P,eP,hP⟩:=pT (n:=H) (k:=K') (s:=s) (p:=p)
     obtain⟨R,eR,hR⟩:=pT (n:=V) (k:=K') (s:=s) (p:=p)
     have hC:C'<=8192:=by
      have:C'<=n*C':=wB _ (by omega)
      have:n*C'<=n*C'*H:=bK _ (by omega)
      have:n*C'*H<=n*C'*H*V:=bK _ (by omega)
      omega
     have hn:n<=8192:=by
      have:n<=n*C':=bK _ (by omega)
      have:n*C'<=n*C'*H:=bK _ (by omega)
      have:n*C'*H<=n*C'*H*V:=bK _ (by omega)
      omega
     have k1:C'*K'<=8192*5:=dE hC (by omega)
     have k2:C'*K'*K'<=8192*5*5:=dE k1 (by omega)
     have k3:H*V<=16*16:=dE (by omega) (by omega)
     unfold aM7 Z9 aFx at hq
     simp only[ex,ew,List.getD_cons_zero,List.getD_cons_succ,eP,eR]at hq⊢
     refine⟨?_⟩
     rw[xC (r:=C') (n:=K') (by omega),xC (r:=C'*K') (n:=K') (by omega),aC (x.2.1+w.2.1)]
     rw[<- jR,<- jR]at hq
     refine Y2 ?_
     by_cases h9:(gQ [(n:Int),(O':Int),(P:Int),(R:Int)] (x.2.1+w.2.1) ((C'*K'*K':Nat):Int)).2=0
     ·obtain⟨f1,f2,f3,f4⟩:=zS h9
      rw[f4]at hq⊢
      simp only[BC,eA,cB]at hq⊢
      obtain⟨n',m',p',q',e1,e2,e3,e4,_,_,_,_,s5,s6⟩:=aBp f3
      have e1:n'=n:=by omega
      have e2:m'=O':=by omega
      have e3:p'=P:=by omega
      have e4:q'=R:=by omega
      subst e1 e2 e3 e4
      rw[s6]
      have g:FwdIn n' C' m' K' H V p' q' x.2.2 w.2.2 b.2.2:=⟨by rw[x6];exact cK _ _ _,w6,by rw[<- cK];exact x5,by omega,ax,aw,ab,b3,by omega,by omega,by omega,by omega,by omega,s5⟩
      rw[xC (r:=H) (n:=V) (by omega)]
      refine aPH g (by omega) (by omega) (by omega) ?_ ?_
      ·rw[bJ];simp
      ·simp only[Int.toNat_natCast]at hq
       exact hq
     ·rw[aB (by simpa using h9)]
      rw[aB (by simpa using h9)]at hq
      have:(gQ [(n:Int),(O':Int),(P:Int),(R:Int)] (x.2.1+w.2.1) ((C'*K'*K':Nat):Int)).1=Z3:=by
       unfold gQ at h9⊢
       split
       ·rfl
       ·split
        ·rfl
        ·split
         ·rfl
         ·rename_i g1 g2 g3
          rw[aA g1,aA g2,aA g3]at h9
          exact absurd rfl h9
      dsimp only
      rw[this]
      exact hq
end Go.Proofs.YtcfpfefadlnmcaaGreat
namespace Go.Proofs.YtcfpfefadlnmcaaGreat
open IntKind (i8 i16 i32 i64 u8 u16 u32 u64)
end Go.Proofs.YtcfpfefadlnmcaaGreat

namespace Go.Proofs.YtcfpfefadlnmcaaGreat
open IntKind (i8 i16 i32 i64 u8 u16 u32 u64)
open Go.Mach Go.RowKit
set_option maxRecDepth 100000
set_option linter.unusedVariables false
set_option linter.unusedSimpArgs false
theorem aEQ (r c:Int)(h:0<szF [r,c]):1<=r/\r<=4096/\1<=c/\c<=4096/\r*c<=8192/\szF [r,c]=r*c:=by
 have e:szF [r,c]=if ((decide (r<1)||decide (4096<r))||decide (8192<i64.wrap (1*r)))=true then 0 else if ((decide (c<1)||decide (4096<c))||decide (8192<i64.wrap (i64.wrap (1*r)*c)))=true then 0 else i64.wrap (i64.wrap (1*r)*c):=rfl
 rw[e]at h⊢
 by_cases h1:((decide (r<1)||decide (4096<r))||decide (8192<i64.wrap (1*r)))=true
 ·rw[aB h1]at h;omega
 ·rw[aA h1]at h⊢
  simp only[cJ,aT,jA]at h1
  rw[OU,aC r]at h h1⊢
  by_cases h2:((decide (c<1)||decide (4096<c))||decide (8192<i64.wrap (r*c)))=true
  ·rw[aB h2]at h;omega
  ·rw[aA h2]at h⊢
   simp only[cJ,aT,jA]at h2
   have:=FK r c 4096 4096 (by omega) (by omega) (by omega) (by omega) (by omega)
   rw[aC (r*c)]at h2 h⊢
   omega
theorem aLf {r c:Int}(h1:1<=r)(h2:r<=4096)(h3:1<=c)(h4:c<=4096)(h5:r*c<=8192):szF [r,c]=r*c:=by
 have e:szF [r,c]=if ((decide (r<1)||decide (4096<r))||decide (8192<i64.wrap (1*r)))=true then 0 else if ((decide (c<1)||decide (4096<c))||decide (8192<i64.wrap (i64.wrap (1*r)*c)))=true then 0 else i64.wrap (i64.wrap (1*r)*c):=rfl
 have hb:=FK r c 4096 4096 (by omega) (by omega) (by omega) (by omega) (by omega)
 rw[e,OU,aC r,aC (r*c),aA (by simp;omega),aA (by simp;omega)]
def m7 (R C:Nat)(f:Nat->Nat->Int):List Int:=(List.range R).flatMap fun r=>(List.range C).map (f r)
theorem AX (R C:Nat)(f:Nat->Nat->Int):m7 (R+1) C f=m7 R C f++(List.range C).map (f R):=by
 unfold m7
 rw[sV,R4]
 simp
theorem AO (R C:Nat)(f:Nat->Nat->Int):(m7 R C f).length=R*C:=by
 induction R with
 | zero=>simp[m7]
 | succ R ih=>rw[AX,mR,ih];simp[eV]
theorem aIp {R C:Nat}{f:Nat->Nat->Int}{r c:Nat}(hr:r<R)(hc:c<C):(m7 R C f).getD (r*C+c) 0=f r c:=by
 induction R with
 | zero=>omega
 | succ R ih =>
   rw[AX,aW]
   have hl:=AO R C f
   by_cases h:r<R
   ·have:=fM (R:=R) h hc
    rw[iJ (by omega),<- aW]
    exact ih h
   ·have:r=R:=by omega
    subst this
    rw[FA (by omega),hl,show r*C+c-r*C=c by omega,mO,List.getElem?_range hc]
    rfl
theorem aMq {p C:Nat}(hC:0<C):p=p / C*C+p%C/\p%C<C:=⟨by rw[Nat.mul_comm];exact(Nat.div_add_mod p C).symm,Nat.mod_lt _ hC⟩
theorem aIV {R C:Nat}{f:Nat->Nat->Int}{l:List Int}(hl:l.length=R*C)(h:∀ r,r<R->∀ c,c<C->l.getD (r*C+c) 0=f r c):l=m7 R C f:=by
 refine aA6 (by rw[hl,AO]) fun p h1 h2 => ?_
 have hC:0<C:=by
  rcases Nat.eq_zero_or_pos C with e|e
  ·rw[hl,e]at h1;omega
  ·exact e
 obtain⟨e,hm⟩:=aMq (p:=p) hC
 have hr:p / C<R:=by
  rw[Nat.div_lt_iff_lt_mul hC,<- hl];exact h1
 have k1:=h _ hr _ hm
 have k2:=aIp (f:=f) hr hm
 rw[<- e,aW,aQ h1]at k1
 rw[<- e,aW,aQ h2]at k2
 simp only[Option.getD_some]at k1 k2
 rw[k1,k2]
def sN (n:Int)(l:List T3):Int:=if l.all bB=true then(if l.all (fun t=>(t.1.length:Int)==n)=true then 0 else 2)else 1
theorem aDY {n:Int}{l:List T3}{Q:Int->Prop}(hl:l.length<=1000000)(h:Q (sN n l)):D9 n l Q:=by
 refine⟨?_⟩
 refine⟨?_⟩
 refine Loop.range (B:=zO l (l.length:Int) _ _) l.length (fun i=>(i:Int)) (fun i=>(l.take i).all bB=true) rfl ?_ ?_
 ·intro i hi hI X hX
  unfold zO
  rw[aB (by simpa using hi)]
  refine⟨by omega,qD ?_⟩
  simp only[Int.toNat_natCast]
  cases hm:bB (l.getD i ([],0,[]))with
  | true =>
    rw[aA (by simp[hm])]
    rw[aC _]
    exact hX (by rw[OJ (d:=([],0,[])) hi,hI,hm];rfl)
  | false =>
    rw[aB (by simp[hm])]
    unfold sN at h
    rw[aA (by rw[aA3 hi hm];simp)]at h
    exact h
 ·intro hI X
  unfold zO
  rw[aA (by simp)]
  rw[rJ]at hI
  unfold sN at h
  rw[aB hI]at h
  refine⟨?_⟩
  refine Loop.range (B:=yR n l (l.length:Int) _ _) l.length (fun i=>(i:Int)) (fun i=>(l.take i).all (fun t=>(t.1.length:Int)==n)=true) rfl ?_ ?_
  ·intro i hi hJ X hX
   unfold yR
   rw[aB (by simpa using hi)]
   refine⟨by omega,?_⟩
   simp only[Int.toNat_natCast]
   cases hm:(((l.getD i ([],0,[])).1.length:Int)==n)with
   | true =>
     rw[aA (by unfold bne;rw[hm];simp)]
     rw[aC _]
     exact hX (by rw[OJ (d:=([],0,[])) hi,hJ,hm];rfl)
   | false =>
     rw[aB (by unfold bne;rw[hm];rfl)]
     rw[aA (by rw[aA3 (d:=([],0,[])) hi hm];simp)]at h
     exact h
  ·intro hJ X
   unfold yR
   rw[aA (by simp)]
   rw[rJ]at hJ
   rw[aB hJ]at h
   exact h
def yC (s:Int)(g:Nat->Int):Nat->Int
 | 0=>s
 | n+1=>yC s g n+g n
theorem aAS (s:Int)(g:Nat->Int)(n:Nat):yC s g n=s+bC g n:=by
 induction n with
 | zero=>simp[yC,bC]
 | succ n ih=>simp only[yC,bC];rw[ih,vR]
theorem JV {s:Int}{g:Nat->Int}{n:Nat}(hs : -1048576<=s/\s<=1048576)(hn:n<=1000000)(h:∀ i,-16384<=g i/\g i<=16384) : -17432576000<=yC s g n/\yC s g n<=17432576000:=by
 have:=aFr g 16384 n fun i _=>h i
 rw[aAS]
 omega
theorem QK {s:Int}{g:Nat->Int}{n:Nat}(hs : -1048576<=s/\s<=1048576)(hn:n<=959)(h:∀ i,-16384<=g i/\g i<=16384) : -16760832<=yC s g n/\yC s g n<=16760832:=by
 have:=aFr g 16384 n fun i _=>h i
 rw[aAS]
 omega
theorem mac {s a b:Int}(hs : -17432576000<=s/\s<=17432576000)(ha : -128<=a/\a<=127)(hb : -128<=b/\b<=127):i64.wrap (s+i64.wrap (i64.wrap a*i64.wrap b))=s+a*b:=by
 have:=YV ha hb
 rw[aC a,aC b,aC (a*b),aC _]
theorem aP3 {s a:Int}(hs : -17432576000<=s/\s<=17432576000)(ha : -128<=a/\a<=127):i64.wrap (s+i64.wrap a)=s+a:=by
 rw[aC a,aC _]
def fwC (n:Nat)(e be:Int)(b x w:List Int)(r o:Nat):Int:=yC (alF (b.getD o 0) be e) (fun i=>x.getD (r*n+i) 0*w.getD (o*n+i) 0) n
theorem aNz {r o n:Nat}{bd b xd x wd w:List Int}{be e xe we:Int}(ho:o<b.length)(hx:r*n+n<=x.length)(hw:o*n+n<=w.length)(lx:x.length<=8192)(lw:w.length<=8192)(hn:n<=959)(bx:All8 x)(bw:All8 w)(bb:All8 b){Q:Int->Prop}(h:Q (fwC n e be b x w r o)):xL (r:Int) (o:Int) bd be b e (n:Int) xd xe x wd we w Q:=by
 refine⟨?_⟩
 refine⟨by omega,?_⟩
 have hb:=bb.at_ o
 simp only[Int.toNat_natCast]
 rw[aC (b.getD o 0)]
 refine aLa ⟨?_⟩
 refine Loop.range (B:=o9 (r:Int) (o:Int) (n:Int) x w (n:Int) _) (f:=fun i=>(yC (alF (b.getD o 0) be e) (fun i=>x.getD (r*n+i) 0*w.getD (o*n+i) 0) i,(i:Int))) n (fun _=>True) trivial ?_ ?_
 ·intro i hi _ X hX
  unfold o9
  rw[aB (by simpa using hi)]
  dsimp only
  have hs:=JV (s:=alF (b.getD o 0) be e) (g:=fun i=>x.getD (r*n+i) 0*w.getD (o*n+i) 0) (n:=i) (aEb (bb.at_ o)) (by omega) (fun i=>YV (bx.at_ _) (bw.at_ _))
  rw[ix (r:=r) (n:=n) (i:=i) (by omega)]
  rw[ix (r:=o) (n:=n) (i:=i) (by omega)]
  refine⟨⟨by omega,by omega⟩,⟨by omega,by omega⟩,?_⟩
  simp only[Int.toNat_natCast]
  rw[mac hs (bx.at_ _) (bw.at_ _),aC ((i:Int)+1)]
  exact hX trivial
 ·intro _ X
  unfold o9
  rw[aA (by simp)]
  exact h
theorem aNh {n:Nat}{e be:Int}{b x w:List Int}{r o:Nat}(hn:n<=959)(bx:All8 x)(bw:All8 w)(bb:All8 b) : -16760832<=fwC n e be b x w r o/\fwC n e be b x w r o<=16760832:=QK (aEb (bb.at_ o)) hn (fun i=>YV (bx.at_ _) (bw.at_ _))
def vJ (R C n e:Int)(f:Nat->Nat->Int):T3×Int :=
 if ((!mE n||decide (128<e))||decide (e < -128))=true then(Z3,3)
 else if (!decide (0<szF [R,C]))=true then(Z3,1)
 else(([R,C],(e,m7 R.toNat C.toNat f)),0)
theorem aFi {b bd x xd w wd:List Int}{be e2 n2 xe we:Int}{R C n e:Int}{f:Nat->Nat->Int}{Q:T3×Int->Prop}
 (hc:mE n=true->0<szF [R,C]->∀ r q:Nat,r<R.toNat->q<C.toNat -> -2147483648<=f r q/\f r q<=2147483647/\∀ K:Int->Prop,K (f r q)->xL (r:Int) (q:Int) bd be b e2 n2 xd xe x wd we w K)
 (h:Q (vJ R C n e f)):i6 R C n e bd be b e2 n2 xd xe x wd we w Q:=by
 refine⟨?_⟩
 refine aAQ ?_
 unfold vJ at h
 by_cases h1:((!mE n||decide (128<e))||decide (e < -128))=true
 ·rw[aB h1]at h⊢;exact h
 ·rw[aA h1]at h⊢
  refine PB ?_
  by_cases h2:(!decide (0<szF [R,C]))=true
  ·rw[aB h2]at h⊢;exact h
  ·rw[aA h2]at h⊢
   have hfit:mE n=true:=by
    simp only[cJ,jA]at h1
    have:=h1.1.1
    cases hq:mE n with
    | true=>rfl
    | false=>rw[hq]at this;exact absurd rfl this
   have hsz:0<szF [R,C]:=by simpa using h2
   have hc:=hc hfit hsz
   obtain⟨k1,k2,k3,k4,k5,_⟩:=aEQ R C hsz
   obtain⟨R,rfl⟩:=gN (show 0<=R by omega)
   obtain⟨C,rfl⟩:=gN (show 0<=C by omega)
   have hRC:R*C<=8192:=by rw[<- jR]at k5;omega
   simp only[Int.toNat_natCast]at hc h
   refine⟨?_⟩
   refine Loop.range (B:=fR (C:Int) bd be b e2 n2 xd xe x wd we w (R:Int) _) (f:=fun r=>((r:Int),m7 r C f)) R (fun _=>True) trivial ?_ ?_
   ·intro r hr _ X hX
    unfold fR
    rw[aB (by simpa using hr)]
    refine⟨?_⟩
    dsimp only
    have hl:=AO r C f
    have hrc:(r+1)*C<=R*C:=fP C hr
    rw[eV,jN]at hrc
    rw[show(0,m7 r C f)=((fun q:Nat=>((q:Int),m7 r C f++(List.range q).map (f r))) 0) by simp]
    refine Loop.range (f:=fun q=>((q:Int),m7 r C f++(List.range q).map (f r))) C (fun _=>True) trivial ?_ ?_
    ·intro q hcc _ Y hY
     unfold jJ
     rw[aB (by simpa using hcc)]
     obtain⟨m1,m2,m3⟩:=hc r q hr hcc
     refine m3 _ ?_
     refine⟨?_,?_⟩
     ·simp only[mR,FH,V7,List.length_singleton,hl]
      omega
     ·have:=hY trivial
      simp only[sV,uM,List.map_cons,List.map_nil,<- gZ]at this
      rw[uK _ m1 m2,aC ((q:Int)+1)]
      exact this
    ·intro _ Y
     unfold jJ
     rw[aA (by simp)]
     have:=hX trivial
     simp only[AX]at this
     dsimp only
     rw[aC ((r:Int)+1)]
     exact this
   ·intro _ X
    unfold fR
    rw[aA (by simp)]
    exact h
theorem aFV {a:T3}(h:bB a=true):(0<szF a.1/\(a.2.2.length:Int)=szF a.1) /\ -64<=a.2.1/\a.2.1<=64 /\ -128∉a.2.2:=by
 obtain⟨h1,h2,h3,h4⟩:=lN.1 h
 exact⟨⟨h1,h2⟩,h3.1,h3.2,h4⟩
theorem E4 {n:Int}(h:mE n=true):0<=n/\n<=959:=aI2.1 h
theorem YC {t:T3}(h:bB t=true)(h2:t.1.length=2):∃ R C:Nat,t.1=[(R:Int),(C:Int)]/\1<=R/\R<=4096/\1<=C/\C<=4096/\R*C<=8192/\t.2.2.length=R*C /\ -64<=t.2.1/\t.2.1<=64:=by
 obtain⟨m1,m2,m3,_⟩:=aFV h
 obtain⟨l1,l2⟩:=m1
 obtain⟨d,e,v⟩:=t
 match d,h2 with
 | [r,c],_ =>
   obtain⟨k1,k2,k3,k4,k5,k6⟩:=aEQ r c l1
   obtain⟨R,rfl⟩:=gN (show 0<=r by omega)
   obtain⟨C,rfl⟩:=gN (show 0<=c by omega)
   simp only at l2
   have l2':(v.length:Int)=((R*C:Nat):Int):=by rw[l2,k6,jR]
   rw[<- jR]at k5
   exact⟨R,C,rfl,by omega,by omega,by omega,by omega,by omega,by show v.length=_;omega,m2,m3⟩
theorem aPU {t:T3}(h:bB t=true)(h2:t.1.length=1):∃ C:Nat,t.1=[(C:Int)]/\1<=C/\C<=4096/\t.2.2.length=C:=by
 obtain⟨m1,m2,m3,_⟩:=aFV h
 obtain⟨l1,l2⟩:=m1
 obtain⟨d,e,v⟩:=t
 match d,h2 with
 | [c],_ =>
   obtain⟨k1,k2,k3⟩:=aKs l1
   obtain⟨C,rfl⟩:=gN (show 0<=c by omega)
   simp only at l2
   exact⟨C,rfl,by omega,by omega,by show v.length=_;omega⟩
theorem aG1 {n:Int}{x w:T3}(h:sN n [x,w]=0):bB x=true/\bB w=true/\(x.1.length:Int)=n/\(w.1.length:Int)=n:=by
 unfold sN at h
 split at h
 ·rename_i h1
  split at h
  ·rename_i h2
   simp only[List.all_cons,List.all_nil,R0,aK,dR]at h1 h2
   exact⟨h1.1,h1.2,h2.1,h2.2⟩
  ·omega
 ·omega
def aLm (x w b:T3):T3×Int :=
 if (!bB b)=true then(Z3,1)
 else if (sN 2 [x,w] != 0)=true then(Z3,sN 2 [x,w])
 else if (((w.1.getD 1 0 != x.1.getD 1 0)||((b.1.length:Int) != 1))||(b.1.getD 0 0 != w.1.getD 0 0))=true then(Z3,2)
 else vJ (x.1.getD 0 0) (w.1.getD 0 0) (x.1.getD 1 0) (x.2.1+w.2.1) (fwC (x.1.getD 1 0).toNat (x.2.1+w.2.1) b.2.1 b.2.2 x.2.2 w.2.2)
theorem aOi {x w b:T3}{Q:T3×Int->Prop}(bx:All8 x.2.2)(bw:All8 w.2.2)(bb:All8 b.2.2)(h:Q (aLm x w b)):G9 x w b Q:=by
 refine⟨?_⟩
 refine qD ?_
 unfold aLm at h
 by_cases h1:(!bB b)=true
 ·rw[aB h1]at h
  rw[aB h1];exact h
 ·rw[aA h1]at h
  rw[aA h1]
  refine aDY (by simp) ?_
  by_cases h2:(sN 2 [x,w] != 0)=true
  ·rw[aB h2]at h⊢;exact h
  ·rw[aA h2]at h⊢
   obtain⟨mx,mw,lx,lw⟩:=aG1 (by simpa using h2)
   have mb:bB b=true:=by simpa using h1
   obtain⟨R,n,ex,x1,x2,x3,x4,x5,x6,x7,x8⟩:=YC mx (by omega)
   obtain⟨C,m,ew,w1,w2,w3,w4,w5,w6,w7,w8⟩:=YC mw (by omega)
   rw[ex,ew]at h⊢
   refine⟨by simp,by simp,by simp,by simp,?_⟩
   have key:∀ v:Bool,(((((m:Int) != (n:Int))||((b.1.length:Int) != 1))||(b.1.getD 0 0 != (C:Int)))=v)->(if v=true then Q (Z3,2)else i6 (R:Int) (C:Int) (n:Int) (i64.wrap (x.2.1+w.2.1)) b.1 b.2.1 b.2.2 (i64.wrap (x.2.1+w.2.1)) (n:Int) [(R:Int),(n:Int)] x.2.1 x.2.2 [(C:Int),(m:Int)] w.2.1 w.2.2 (fun r5=>Q ((r5.1.1,(r5.1.2.1,r5.1.2.2)),r5.2))):=by
    intro v hv
    cases v with
    | true =>
      rw[aB rfl]
      rw[aB (by simpa using hv)]at h
      exact h
    | false =>
      rw[aA (by simp)]
      rw[aA (by show ¬ _=true;rw[show((((([(C:Int),(m:Int)].getD 1 0) != ([(R:Int),(n:Int)].getD 1 0))||((b.1.length:Int) != 1))||(b.1.getD 0 0 != [(C:Int),(m:Int)].getD 0 0)))=false from hv];simp)]at h
      simp only[eI,GU]at hv
      obtain⟨⟨h3,h4⟩,h5⟩:=hv
      obtain⟨D,eb,b1,b2,b3⟩:=aPU mb (by omega)
      have hD:D=C:=by
       have:(D:Int)=(C:Int):=by rw[eb]at h5;simpa using h5
       omega
      have hmn:m=n:=by omega
      subst hD;subst hmn
      rw[aC (x.2.1+w.2.1)]
      refine aFi (f:=fwC m (x.2.1+w.2.1) b.2.1 b.2.2 x.2.2 w.2.2) ?_ h
      intro hfit hsz r c hr hcc
      have hn:=E4 hfit
      have:=aNh (n:=m) (e:=x.2.1+w.2.1) (be:=b.2.1) (r:=r) (o:=c) (by omega) bx bw bb
      refine⟨by omega,by omega,fun K hK => ?_⟩
      simp only[Int.toNat_natCast]at hr hcc
      have k1:(r+1)*m<=R*m:=fP m hr
      have k2:(c+1)*m<=D*m:=fP m hcc
      rw[eV,jN]at k1 k2
      exact aNz (by omega) (by omega) (by omega) (by omega) (by omega) (by omega) bx bw bb hK
   show(if (((m:Int) != (n:Int))||((b.1.length:Int) != 1))=true then _ else _)
   by_cases h3:(((m:Int) != (n:Int))||((b.1.length:Int) != 1))=true
   ·rw[aB h3]
    exact key true (by rw[h3];rfl)
   ·rw[aA h3]
    have h4:b.1.length=1:=by
     simp only[cJ,jA,pA,ne_eq,Classical.not_not]at h3
     omega
    refine⟨⟨by omega,by omega⟩,key _ ?_⟩
    have h3':(((m:Int) != (n:Int))||((b.1.length:Int) != 1))=false:=by simpa using h3
    rw[h3']
    rfl
end Go.Proofs.YtcfpfefadlnmcaaGreat

namespace Go.Proofs.YtcfpfefadlnmcaaGreat
open IntKind (i8 i16 i32 i64 u8 u16 u32 u64)
open Go.Mach
set_option maxRecDepth 100000
set_option linter.unusedVariables false
set_option linter.unusedSimpArgs false
theorem PR (n:Nat)(f:Nat->Int):tab (n+1) f=tab n f++[f n]:=by
 unfold tab
 rw[sV,uM]
 rfl
theorem FP {α:Type}{l:List α}{i:Nat}(h:i<l.length)(d:α):l.take (i+1)=l.take i++[l.getD i d]:=by
 rw[WT,aQ h,aW,aQ h];rfl
theorem aEF {d:List Int}{k s:Int}{Q:(Int×Int×Int×Int×Int×Int)×Bool->Prop}(h1:((d.length:Int) != 4)=true->Q ((0,(0,(0,(0,(0,0))))),false))
 (h2:((d.length:Int) != 4)=false->Q ((d.getD 2 0,(d.getD 3 0,(k,(s,(bA (d.getD 2 0) k s 0,bA (d.getD 3 0) k s 0))))),decide (0<bA (d.getD 2 0) k s 0)&&decide (0<bA (d.getD 3 0) k s 0))):IU d k s Q:=by
 refine⟨?_⟩
 split
 ·rename_i h;exact h1 h
 ·rename_i h
  have h:=Bool.eq_false_iff.2 h
  have:(d.length:Int)=4:=by simpa using h
  exact⟨by omega,by omega,RQ (RQ (h2 h))⟩
def pZ (H V:Nat)(k s:Int)(P Q t:Nat):List Int:=(fX H V ((t%(P*Q) / Q:Nat):Int) ((t%(P*Q)%Q:Nat):Int) k s 0).map fun z=>((t / (P*Q)*H*V:Nat):Int)+z.1
theorem QJ {n H V:Nat}{a:Int}(h:n*H*V<=100000000)(ha:0<=a/\a<=100000000):i64.wrap (i64.wrap (i64.wrap ((n:Int)*(H:Int))*(V:Int))+a)=((n*H*V:Nat):Int)+a\/V=0:=by
 by_cases hV:V=0
 ·exact .inr hV
 ·left
  have h1:n*H<=n*H*V:=bK _ (by omega)
  rw[xC (r:=n) (n:=H) (by omega),xC (r:=n*H) (n:=V) (by omega),aC _]
theorem aMB {n H V:Nat}{w:List (Int×Int×Int)}{K0:List Int->Prop}(hb:n*H*V<=100000000)(hV:1<=V)(hw:w.length<=1000000)(hz:∀ z∈w,0<=z.1/\z.1<=100000000)(h:K0 (w.map fun z=>((n*H*V:Nat):Int)+z.1)) :
 kS n (w.length:Int) H V w K0 (0,[]):=by
 refine⟨?_⟩
 have e0:((0:Int),([]:List Int))=(fun i:Nat=>((i:Int),(w.take i).map fun z=>((n*H*V:Nat):Int)+z.1)) 0:=by simp
 rw[e0]
 refine Loop.range (B:=fL n (w.length:Int) H V w K0) w.length (fun i:Nat=>((i:Int),(w.take i).map fun z=>((n*H*V:Nat):Int)+z.1)) (fun _=>True) trivial ?_ ?_
 ·intro i hi _ X hX
  have hX:=hX trivial
  unfold fL
  rw[aB (aF (show(i:Int)<(w.length:Int) by omega))]
  dsimp only at hX⊢
  have hm:=hz (w.getD i (0,0,0)) (by rw[aW,aQ hi];exact fZ hi)
  refine⟨by omega,?_⟩
  rw[bJ]
  rcases QJ hb hm with e|e
  ·rw[e,aC ((i:Int)+1)]
   refine⟨by simp;omega,?_⟩
   rw[FP hi (0,0,0),uM]at hX
   exact hX
  ·omega
 ·intro _ X
  unfold fL
  rw[aA (by simp)]
  simpa using h
def vO (X:List Int)(b:Int)(l:List Int):Int:=l.foldl (fun b a=>if decide (X.getD b.toNat 0<X.getD a.toNat 0)=true then a else b) b
def XQ (X l:List Int):Int:=vO X (l.getD 0 0) l
theorem KZ (X:List Int):∀ (l:List Int) (b:Int),vO X b l=b\/vO X b l∈l
 | [],b => .inl rfl
 | a::l,b=>by
   unfold vO
   rw[List.foldl_cons]
   by_cases h:decide (X.getD b.toNat 0<X.getD a.toNat 0)=true
   ·rw[aB h]
    rcases KZ X l a with e|e
    ·right;unfold vO at e;rw[e];exact jM
    ·right;exact kJ _ e
   ·rw[aA h]
    rcases KZ X l b with e|e
    ·left;exact e
    ·right;exact kJ _ e
theorem aJH {X l:List Int}(h:l≠[]):XQ X l∈l:=by
 unfold XQ
 cases l with
 | nil=>exact absurd rfl h
 | cons a l =>
   rcases KZ X (a::l) ((a::l).getD 0 0)with e|e
   ·rw[e];simp
   ·exact e
theorem aL8 {X l:List Int}{K0:Int->Prop}(hl:l≠[])(hn:l.length<=1000000)(hr:∀ a∈l,0<=a/\a<(X.length:Int))(h:K0 (XQ X l)):eL (l.length:Int) X l K0 (l.getD 0 0,0):=by
 refine⟨?_⟩
 have e0:(l.getD 0 0,(0:Int))=(fun i:Nat=>(vO X (l.getD 0 0) (l.take i),(i:Int))) 0:=by simp[vO]
 rw[e0]
 have hmem:∀ i,0<=vO X (l.getD 0 0) (l.take i)/\vO X (l.getD 0 0) (l.take i)<(X.length:Int):=by
  intro i
  rcases KZ X (l.take i) (l.getD 0 0)with e|e
  ·rw[e]
   refine hr _ ?_
   cases l with
   | nil=>exact absurd rfl hl
   | cons a l=>simp
  ·exact hr _ (List.mem_of_mem_take e)
 refine Loop.range (B:=cW (l.length:Int) X l K0) l.length (fun i:Nat=>(vO X (l.getD 0 0) (l.take i),(i:Int))) (fun _=>True) trivial ?_ ?_
 ·intro i hi _ Y hY
  have hY:=hY trivial
  unfold cW
  rw[aB (aF (show(i:Int)<(l.length:Int) by omega))]
  dsimp only at hY⊢
  have hm:=hr (l.getD i 0) (O6 hi)
  refine⟨by omega,?_⟩
  rw[bJ]
  refine⟨hm,hmem i,?_⟩
  have e1:vO X (l.getD 0 0) (l.take (i+1))=if decide (X.getD (vO X (l.getD 0 0) (l.take i)).toNat 0<X.getD (l.getD i 0).toNat 0)=true then l.getD i 0 else vO X (l.getD 0 0) (l.take i):=by
   rw[FP hi 0]
   unfold vO
   rw[S3]
   rfl
  rw[e1]at hY
  by_cases hc:decide (X.getD (vO X (l.getD 0 0) (l.take i)).toNat 0<X.getD (l.getD i 0).toNat 0)=true
  ·rw[aB hc]at hY⊢
   refine⟨?_⟩
   rw[aC ((i:Int)+1)]
   exact hY
  ·rw[aA hc]at hY⊢
   refine⟨?_⟩
   rw[aC ((i:Int)+1)]
   exact hY
 ·intro _ Y
  unfold cW
  rw[aA (by simp)]
  have:vO X (l.getD 0 0) (l.take l.length)=XQ X l:=by rw[rJ];rfl
  dsimp only
  rw[this];exact h
structure PoolIn (N H V P Q:Nat)(k s:Int)(X:List Int):Prop where
 hx:X.length=N*(H*V)
 bx:N*(H*V)<=8192
 hH:1<=H/\H<=16
 hV:1<=V/\V<=16
 hk:1<=k/\k<=5
 hs:1<=s/\s<=4
 hP:bA H k s 0=P
 hQ:bA V k s 0=Q
 p1:1<=P
 q1:1<=Q
theorem PoolIn.le {N H V P Q:Nat}{k s:Int}{X:List Int}(g:PoolIn N H V P Q k s X):P<=25/\Q<=25/\N<=8192:=by
 obtain⟨P',e1,h1⟩:=pT (n:=H) (k:=k) (s:=s) (p:=0)
 obtain⟨Q',e2,h2⟩:=pT (n:=V) (k:=k) (s:=s) (p:=0)
 have:=g.hP
 have:=g.hQ
 have h3:=g.bx
 have h4:=dE (dE (aJ N) g.hH.1) g.hV.1
 rw[cK,cK]at h4
 have h5:N*H*V=N*(H*V):=cK _ _ _
 omega
theorem QP {n:Nat}{k s r:Int}{P:Nat}(h:bA n k s 0=P)(h1:1<=P)(hr:0<=r/\r<=P-1):0<=s*r/\s*r<=n-k:=by
 obtain⟨a,b,c,d,e,f⟩:=lO (n:=(n:Int)) (k:=k) (s:=s) (p:=0) (by omega)
 have h2:(P:Int)-1=(n+2*0-k) / s:=by omega
 have h3:s*((n+2*0-k) / s)<=n+2*0-k:=Int.mul_ediv_self_le (by omega)
 have h4:s*r<=s*((P:Int)-1):=WA hr.2 (by omega)
 rw[h2]at h4
 exact⟨EX (by omega) hr.1,by omega⟩
theorem aKC {H V P Q:Nat}{k s r c:Int}(hP:bA H k s 0=P)(hQ:bA V k s 0=Q)(p1:1<=P)(q1:1<=Q)(hr:0<=r/\r<=P-1)(hc:0<=c/\c<=Q-1):fX H V r c k s 0≠[]:=by
 obtain⟨a,b,_⟩:=lO (n:=(H:Int)) (k:=k) (s:=s) (p:=0) (by omega)
 obtain⟨a',_⟩:=lO (n:=(V:Int)) (k:=k) (s:=s) (p:=0) (by omega)
 have h1:=QP hP p1 hr
 have h2:=QP hQ q1 hc
 have hnw:aDP H V r c k s 0=false:=by
  unfold aDP inP
  rw[hP,hQ]
  simp only[eI,fB,xS,aK,aT]
  omega
 unfold fX
 rw[aA (by rw[hnw];simp)]
 have hm:(((s*r-0+((0:Nat):Int))*V+(s*c-0+((0:Nat):Int)),((0:Nat):Int),((0:Nat):Int)):Int×Int×Int)∈OB H V (s*r-0) (s*c-0) k.toNat k.toNat:=by
  unfold OB rH tO
  refine List.mem_flatMap.2 ⟨0,List.mem_range.2 (by omega),List.mem_flatMap.2 ⟨0,List.mem_range.2 (by omega),?_⟩⟩
  rw[aB (by unfold inP;simp only[aK,aT];omega)]
  exact List.mem_singleton.2 rfl
 intro e
 rw[e]at hm
 cases hm
section
variable {N H V P Q:Nat} {k s:Int} {X:List Int}
theorem PoolIn.cell (g:PoolIn N H V P Q k s X){n i:Nat}(hn:n<N)(hi:i<P*Q) :
 (i / Q<P/\i%Q<Q)/\(fX H V ((i / Q:Nat):Int) ((i%Q:Nat):Int) k s 0).length<=25/\(∀ z∈fX H V ((i / Q:Nat):Int) ((i%Q:Nat):Int) k s 0,0<=z.1/\z.1<(H*V:Nat))/\fX H V ((i / Q:Nat):Int) ((i%Q:Nat):Int) k s 0≠[] /\
  pZ H V k s P Q (n*(P*Q)+i)=(fX H V ((i / Q:Nat):Int) ((i%Q:Nat):Int) k s 0).map fun z=>((n*H*V:Nat):Int)+z.1:=by
 obtain⟨l1,l2,l3⟩:=g.le
 have q1:=g.q1
 have p1:=g.p1
 have hk:=g.hk
 have h1:i / Q<P:=Nat.div_lt_of_lt_mul (by rw[Nat.mul_comm];exact hi)
 have h2:i%Q<Q:=Nat.mod_lt _ (by omega)
 obtain⟨K,hK⟩:∃ K:Nat,k=K:=⟨k.toNat,by omega⟩
 subst hK
 refine⟨⟨h1,h2⟩,?_,?_,?_,?_⟩
 ·have:=GV (rows:=H) (cols:=V) (r:=((i / Q:Nat):Int)) (c:=((i%Q:Nat):Int)) (s:=s) (p:=0) (K:=K)
  have:K*K<=5*5:=dE (by omega) (by omega)
  omega
 ·intro z hz
  obtain⟨a,r,c,rfl,ha,_⟩:=LX z hz
  exact⟨by dsimp only;omega,by dsimp only;omega⟩
 ·exact aKC g.hP g.hQ p1 q1 ⟨aAK _,by generalize i / Q=y at *;omega⟩ ⟨aAK _,by generalize i%Q=y at *;omega⟩
 ·unfold pZ
  rw[FF hi,AE hi]
theorem PoolIn.addr (g:PoolIn N H V P Q k s X){n i:Nat}(hn:n<N)(hi:i<P*Q):∀ a∈pZ H V k s P Q (n*(P*Q)+i),0<=a/\a<(X.length:Int):=by
 obtain⟨_,_,h3,_,h5⟩:=g.cell hn hi
 rw[h5]
 intro a ha
 obtain⟨z,hz,rfl⟩:=List.mem_map.1 ha
 have:=h3 z hz
 have h6:=fM (r:=n) (R:=N) (n:=H*V) (i:=z.1.toNat) hn (by omega)
 have h7:n*H*V=n*(H*V):=cK _ _ _
 rw[g.hx]
 omega
theorem aLF (g:PoolIn N H V P Q k s X){n:Nat}(hn:n<N){K0:List Int×List Int->Prop}{F:Nat->Int}(hF:F=fun t=>XQ X (pZ H V k s P Q t))
 (h:K0 ((tab (n*(P*Q)+P*Q) F).map (fun a=>X.getD a.toNat 0),tab (n*(P*Q)+P*Q) F)) :
 kL n ((P*Q:Nat):Int) X H V k s Q K0 (0,(tab (n*(P*Q)) F).map (fun a=>X.getD a.toNat 0),tab (n*(P*Q)) F):=by
 obtain⟨l1,l2,l3⟩:=g.le
 have q1:=g.q1
 have hPQ:P*Q<=25*25:=dE l1 l2
 have hNN:n*(P*Q)<=8192*(25*25):=dE (by omega) hPQ
 have hx:=g.hx
 have bx:=g.bx
 refine⟨?_⟩
 have e0:((0:Int),(tab (n*(P*Q)) F).map (fun a=>X.getD a.toNat 0),tab (n*(P*Q)) F)=(fun i:Nat=>((i:Int),(tab (n*(P*Q)+i) F).map (fun a=>X.getD a.toNat 0),tab (n*(P*Q)+i) F)) 0:=rfl
 rw[e0]
 refine Loop.range (B:=fI n ((P*Q:Nat):Int) X H V k s Q K0) (P*Q) (fun i:Nat=>((i:Int),(tab (n*(P*Q)+i) F).map (fun a=>X.getD a.toNat 0),tab (n*(P*Q)+i) F)) (fun _=>True) trivial ?_ ?_
 ·intro i hi _ Y hY
  have hY:=hY trivial
  obtain⟨⟨c1,c2⟩,c3,c4,c5,c6⟩:=g.cell hn hi
  have c7:=g.addr hn hi
  unfold fI
  rw[aB (aF (show(i:Int)<((P*Q:Nat):Int) by omega))]
  dsimp only at hY⊢
  refine⟨by omega,by omega,?_⟩
  have e1:i64.wrap ((i:Int).tdiv (Q:Int))=((i / Q:Nat):Int):=by
   rw[<- Int.ofNat_tdiv];exact aC _ (by have:=aAK (i / Q);generalize i / Q=y at *;omega) (by have:=VP i Q;generalize i / Q=y at *;omega)
  have e2:(i:Int).tmod (Q:Int)=((i%Q:Nat):Int):=(Int.ofNat_tmod _ _).symm
  rw[e1,e2]
  refine PL ?_
  have hb:n*H*V<=100000000:=by
   have h7:n*H*V=n*(H*V):=cK _ _ _
   have:=fP (H*V) (rI hn)
   omega
  refine aMB hb g.hV.1 (by omega) (fun z hz=>by
   have:=c4 z hz
   have h8:H*V<=16*16:=dE g.hH.2 g.hV.2
   omega) ?_
  rw[<- c6]
  have hne:pZ H V k s P Q (n*(P*Q)+i)≠[]:=by rw[c6];simpa using c5
  have hlen:(pZ H V k s P Q (n*(P*Q)+i)).length<=25:=by rw[c6];simpa using c3
  have hpos:0<(pZ H V k s P Q (n*(P*Q)+i)).length:=List.length_pos_iff.2 hne
  refine⟨by omega,?_⟩
  refine aL8 hne (by omega) c7 ?_
  have hb:=c7 _ (aJH (X:=X) hne)
  refine⟨hb,by simp;omega,by simp;omega,?_⟩
  rw[aC ((i:Int)+1)]
  rw[show n*(P*Q)+(i+1)=n*(P*Q)+i+1 by omega,PR,uM]at hY
  have eF:F (n*(P*Q)+i)=XQ X (pZ H V k s P Q (n*(P*Q)+i)):=by rw[hF]
  rw[eF]at hY
  exact hY
 ·intro _ Y
  unfold fI
  rw[aA (by simp)]
  exact h
theorem aK4 (g:PoolIn N H V P Q k s X){K0:List Int×List Int->Prop}{F:Nat->Int}(hF:F=fun t=>XQ X (pZ H V k s P Q t))
 (h:K0 ((tab (N*(P*Q)) F).map (fun a=>X.getD a.toNat 0),tab (N*(P*Q)) F)) :
 kT (N:Int) X H V k s P Q K0 (0,[],[]):=by
 obtain⟨l1,l2,l3⟩:=g.le
 refine⟨?_⟩
 have e0:((0:Int),([]:List Int),([]:List Int))=(fun n:Nat=>((n:Int),(tab (n*(P*Q)) F).map (fun a=>X.getD a.toNat 0),tab (n*(P*Q)) F)) 0:=by simp[tab]
 rw[e0]
 refine Loop.range (B:=fH (N:Int) X H V k s P Q K0) N (fun n:Nat=>((n:Int),(tab (n*(P*Q)) F).map (fun a=>X.getD a.toNat 0),tab (n*(P*Q)) F)) (fun _=>True) trivial ?_ ?_
 ·intro n hn _ Y hY
  have hY:=hY trivial
  unfold fH
  rw[aB (aF (show(n:Int)<(N:Int) by omega))]
  dsimp only at hY⊢
  have hPQ:P*Q<=25*25:=dE l1 l2
  rw[xC (r:=P) (n:=Q) (by omega)]
  refine aLF g hn hF ?_
  rw[aC ((n:Int)+1)]
  rw[eV,jN]at hY
  exact hY
 ·intro _ Y
  unfold fH
  rw[aA (by simp)]
  exact h
end
def plE (x:T3)(k s:Int):Int :=
 if bB x=true then(if ((x.1.length:Int) != 4)=true then 2 else if (decide (0<bA (x.1.getD 2 0) k s 0)&&decide (0<bA (x.1.getD 3 0) k s 0))=true then 0 else 2)else 1
def plD (x:T3)(k s:Int):List Int:=[x.1.getD 0 0,x.1.getD 1 0,bA (x.1.getD 2 0) k s 0,bA (x.1.getD 3 0) k s 0]
def plN (x:T3)(k s:Int):Nat:=(x.1.getD 0 0*x.1.getD 1 0).toNat*((bA (x.1.getD 2 0) k s 0).toNat*(bA (x.1.getD 3 0) k s 0).toNat)
def plA (x:T3)(k s:Int)(t:Nat):List Int:=pZ (x.1.getD 2 0).toNat (x.1.getD 3 0).toNat k s (bA (x.1.getD 2 0) k s 0).toNat (bA (x.1.getD 3 0) k s 0).toNat t
def aK8 (x:T3)(k s:Int):List Int:=tab (plN x k s) fun t=>XQ x.2.2 (plA x k s t)
def aKI (x:T3)(k s:Int):T3×List Int×Int :=
 if (plE x k s != 0)=true then(Z3,[],plE x k s)else((plD x k s,(x.2.1,(aK8 x k s).map fun a=>x.2.2.getD a.toNat 0)),aK8 x k s,0)
theorem aM9 {x:T3}{k s:Int}(h:plE x k s=0):∃ N H V P Q n m:Nat,x.1=[(n:Int),(m:Int),(H:Int),(V:Int)]/\N=n*m/\PoolIn N H V P Q k s x.2.2/\bB x=true/\(1<=n/\n<=4096/\1<=m/\m<=4096):=by
 unfold plE at h
 split at h
 case isFalse=>exact absurd h (by decide)
 rename_i hm
 split at h
 case isTrue=>exact absurd h (by decide)
 rename_i hl
 split at h
 case isFalse=>exact absurd h (by decide)
 rename_i hpq
 have hl:(x.1.length:Int)=4:=by simpa using hl
 simp only[aK,aT]at hpq
 obtain⟨n,m,H,V,e,h1,h2,h3,h4,h5,h6,_⟩:=S1 hm hl
 rw[e]at hpq
 simp only[List.getD_cons_succ,List.getD_cons_zero]at hpq
 obtain⟨P,eP,_⟩:=pT (n:=(H:Int)) (k:=k) (s:=s) (p:=0)
 obtain⟨Q,eQ,_⟩:=pT (n:=(V:Int)) (k:=k) (s:=s) (p:=0)
 obtain⟨a1,a2,a3,_⟩:=lO hpq.1
 obtain⟨b1,_⟩:=lO hpq.2
 obtain⟨_,hd,_,_⟩:=tP (lN.1 hm).1
 rw[e]at hd
 have hn:=hd n (by simp)
 have hmm:=hd m (by simp)
 exact⟨n*m,H,V,P,Q,n,m,e,rfl,⟨by rw[h6,cK],by rw[<- cK];exact h5,by omega,by omega,a2,a3,eP,eQ,by omega,by omega⟩,hm,by omega⟩
theorem aO1 {x:T3}{k s:Int}{Q:T3×List Int×Int->Prop}(h:Q (aKI x k s)):aAu x k s Q:=by
 refine⟨?_⟩
 unfold aKI at h
 refine qD ?_
 cases hm:bB (x.1,x.2.1,x.2.2)with
 | false =>
   have e:plE x k s=1:=by unfold plE;rw[aA (by rw[show x=(x.1,x.2.1,x.2.2)from rfl,hm];simp)]
   rw[e]at h
   exact h
 | true =>
   rw[aA (by simp)]
   refine aEF (fun hl => ?_) (fun hl => ?_)
   ·have e:plE x k s=2:=by unfold plE;rw[aB hm,aB hl]
    rw[e]at h
    exact h
   ·cases hpq:(decide (0<bA (x.1.getD 2 0) k s 0)&&decide (0<bA (x.1.getD 3 0) k s 0))with
    | false =>
      have e:plE x k s=2:=by unfold plE;rw[aB hm,aA (by rw[hl];simp),aA (by rw[hpq];simp)]
      rw[e]at h
      exact h
    | true =>
      have e:plE x k s=0:=by unfold plE;rw[aB hm,aA (by rw[hl];simp),aB hpq]
      rw[e,aA (by simp)]at h
      rw[aA (by simp)]
      obtain⟨N,H,V,P,Q,n,m,ex,eN,g,_,hb⟩:=aM9 e
      unfold aK8 plN plA plD at h
      dsimp only
      rw[ex]at h⊢
      simp only[List.getD_cons_succ,List.getD_cons_zero]at h⊢
      rw[g.hP,g.hQ]at h⊢
      have en:((n:Int)*(m:Int)).toNat=N:=by rw[eN,<- jR];exact bJ _
      rw[en]at h
      simp only[Int.toNat_natCast]at h
      have hN:n*m<=8192:=by rw[<- eN];exact g.le.2.2
      rw[xC (r:=n) (n:=m) (by omega),<- eN]
      refine⟨by simp,by simp,by simp,by simp,aK4 g rfl ?_⟩
      exact h
theorem aLC {n H V:Nat}{w:List (Int×Int×Int)}{K0:List Int->Prop}(hb:n*H*V<=100000000)(hV:1<=V)(hw:w.length<=1000000)(hz:∀ z∈w,0<=z.1/\z.1<=100000000)(h:K0 (w.map fun z=>((n*H*V:Nat):Int)+z.1)) :
 kQ n (w.length:Int) H V w K0 (0,[]):=by
 refine⟨?_⟩
 have e0:((0:Int),([]:List Int))=(fun i:Nat=>((i:Int),(w.take i).map fun z=>((n*H*V:Nat):Int)+z.1)) 0:=by simp
 rw[e0]
 refine Loop.range (B:=fJ n (w.length:Int) H V w K0) w.length (fun i:Nat=>((i:Int),(w.take i).map fun z=>((n*H*V:Nat):Int)+z.1)) (fun _=>True) trivial ?_ ?_
 ·intro i hi _ X hX
  have hX:=hX trivial
  unfold fJ
  rw[aB (aF (show(i:Int)<(w.length:Int) by omega))]
  dsimp only at hX⊢
  have hm:=hz (w.getD i (0,0,0)) (by rw[aW,aQ hi];exact fZ hi)
  refine⟨by omega,?_⟩
  rw[bJ]
  rcases QJ hb hm with e|e
  ·rw[e,aC ((i:Int)+1)]
   refine⟨by simp;omega,?_⟩
   rw[FP hi (0,0,0),uM]at hX
   exact hX
  ·omega
 ·intro _ X
  unfold fJ
  rw[aA (by simp)]
  simpa using h
def aJP (X l:List Int):Int:=i32.wrap (AY l fun a=>X.getD a.toNat 0)
theorem aLg {X l:List Int}{K0:Int->Prop}(hn:l.length<=1000000)(hr:∀ a∈l,0<=a/\a<(X.length:Int))(h:K0 (aJP X l)):eS (l.length:Int) X l K0 (0,0):=by
 refine⟨?_⟩
 have e0:((0:Int),(0:Int))=(fun i:Nat=>(i32.wrap (bC (fun j=>X.getD (l.getD j 0).toNat 0) i),(i:Int))) 0:=by simp[bC,IntKind.wrap,IntKind.bits,IntKind.signed]
 rw[e0]
 refine Loop.range (B:=cX (l.length:Int) X l K0) l.length (fun i:Nat=>(i32.wrap (bC (fun j=>X.getD (l.getD j 0).toNat 0) i),(i:Int))) (fun _=>True) trivial ?_ ?_
 ·intro i hi _ Y hY
  have hY:=hY trivial
  unfold cX
  rw[aB (aF (show(i:Int)<(l.length:Int) by omega))]
  dsimp only at hY⊢
  have hm:=hr (l.getD i 0) (O6 hi)
  refine⟨by omega,?_⟩
  rw[bJ]
  refine⟨hm,?_⟩
  rw[JM,EE,aC ((i:Int)+1)]
  exact hY
 ·intro _ Y
  unfold cX
  rw[aA (by simp)]
  unfold aJP at h
  rw[EB l _ 0]at h
  exact h
section
variable {N H V P Q:Nat} {k s:Int} {X:List Int}
theorem aLy (g:PoolIn N H V P Q k s X){n:Nat}(hn:n<N){K0:List Int->Prop}{F:Nat->Int}(hF:F=fun t=>aJP X (pZ H V k s P Q t))(h:K0 (tab (n*(P*Q)+P*Q) F)) :
 kU n ((P*Q:Nat):Int) X H V k s Q K0 (0,tab (n*(P*Q)) F):=by
 obtain⟨l1,l2,l3⟩:=g.le
 have q1:=g.q1
 have hPQ:P*Q<=25*25:=dE l1 l2
 have hNN:n*(P*Q)<=8192*(25*25):=dE (by omega) hPQ
 have hx:=g.hx
 have bx:=g.bx
 refine⟨?_⟩
 have e0:((0:Int),tab (n*(P*Q)) F)=(fun i:Nat=>((i:Int),tab (n*(P*Q)+i) F)) 0:=rfl
 rw[e0]
 refine Loop.range (B:=fQ n ((P*Q:Nat):Int) X H V k s Q K0) (P*Q) (fun i:Nat=>((i:Int),tab (n*(P*Q)+i) F)) (fun _=>True) trivial ?_ ?_
 ·intro i hi _ Y hY
  have hY:=hY trivial
  obtain⟨⟨c1,c2⟩,c3,c4,c5,c6⟩:=g.cell hn hi
  have c7:=g.addr hn hi
  unfold fQ
  rw[aB (aF (show(i:Int)<((P*Q:Nat):Int) by omega))]
  dsimp only at hY⊢
  refine⟨by omega,by omega,?_⟩
  have e1:i64.wrap ((i:Int).tdiv (Q:Int))=((i / Q:Nat):Int):=by
   rw[<- Int.ofNat_tdiv];exact aC _ (by have:=aAK (i / Q);generalize i / Q=y at *;omega) (by have:=VP i Q;generalize i / Q=y at *;omega)
  have e2:(i:Int).tmod (Q:Int)=((i%Q:Nat):Int):=(Int.ofNat_tmod _ _).symm
  rw[e1,e2]
  refine PL ?_
  have hb:n*H*V<=100000000:=by
   have h7:n*H*V=n*(H*V):=cK _ _ _
   have:=fP (H*V) (rI hn)
   omega
  refine aLC hb g.hV.1 (by omega) (fun z hz=>by
   have:=c4 z hz
   have h8:H*V<=16*16:=dE g.hH.2 g.hV.2
   omega) ?_
  rw[<- c6]
  have hlen:(pZ H V k s P Q (n*(P*Q)+i)).length<=25:=by rw[c6];simpa using c3
  refine aLg (by omega) c7 ⟨by simp;omega,?_⟩
  rw[aC ((i:Int)+1)]
  rw[show n*(P*Q)+(i+1)=n*(P*Q)+i+1 by omega,PR]at hY
  have eF:F (n*(P*Q)+i)=aJP X (pZ H V k s P Q (n*(P*Q)+i)):=by rw[hF]
  rw[eF]at hY
  exact hY
 ·intro _ Y
  unfold fQ
  rw[aA (by simp)]
  exact h
theorem aKg (g:PoolIn N H V P Q k s X){K0:List Int->Prop}{F:Nat->Int}(hF:F=fun t=>aJP X (pZ H V k s P Q t))(h:K0 (tab (N*(P*Q)) F)):kN (N:Int) X H V k s P Q K0 (0,[]):=by
 obtain⟨l1,l2,l3⟩:=g.le
 refine⟨?_⟩
 have e0:((0:Int),([]:List Int))=(fun n:Nat=>((n:Int),tab (n*(P*Q)) F)) 0:=by simp[tab]
 rw[e0]
 refine Loop.range (B:=fG (N:Int) X H V k s P Q K0) N (fun n:Nat=>((n:Int),tab (n*(P*Q)) F)) (fun _=>True) trivial ?_ ?_
 ·intro n hn _ Y hY
  have hY:=hY trivial
  unfold fG
  rw[aB (aF (show(n:Int)<(N:Int) by omega))]
  dsimp only at hY⊢
  have hPQ:P*Q<=25*25:=dE l1 l2
  rw[xC (r:=P) (n:=Q) (by omega)]
  refine aLy g hn hF ?_
  rw[aC ((n:Int)+1)]
  rw[eV,jN]at hY
  exact hY
 ·intro _ Y
  unfold fG
  rw[aA (by simp)]
  exact h
end
def aAH (k:Int):Int:=i64.wrap ((i64.wrap (k.tdiv 2))*2)
def aLM (x:T3)(k s:Int):T3×Int :=
 if (plE x k s != 0)=true then(Z3,plE x k s)else((plD x k s,(i64.wrap (x.2.1-aAH k),tab (plN x k s) fun t=>aJP x.2.2 (plA x k s t))),0)
theorem aNt {x:T3}{k s:Int}{Q:T3×Int->Prop}(h:Q (aLM x k s)):aAz x k s Q:=by
 refine⟨?_⟩
 unfold aLM at h
 refine qD ?_
 cases hm:bB (x.1,x.2.1,x.2.2)with
 | false =>
   have e:plE x k s=1:=by unfold plE;rw[aA (by rw[show x=(x.1,x.2.1,x.2.2)from rfl,hm];simp)]
   rw[e]at h
   exact h
 | true =>
   rw[aA (by simp)]
   refine aEF (fun hl => ?_) (fun hl => ?_)
   ·have e:plE x k s=2:=by unfold plE;rw[aB hm,aB hl]
    rw[e]at h
    exact h
   ·cases hpq:(decide (0<bA (x.1.getD 2 0) k s 0)&&decide (0<bA (x.1.getD 3 0) k s 0))with
    | false =>
      have e:plE x k s=2:=by unfold plE;rw[aB hm,aA (by rw[hl];simp),aA (by rw[hpq];simp)]
      rw[e]at h
      exact h
    | true =>
      have e:plE x k s=0:=by unfold plE;rw[aB hm,aA (by rw[hl];simp),aB hpq]
      rw[e,aA (by simp)]at h
      rw[aA (by simp)]
      obtain⟨N,H,V,P,Q,n,m,ex,eN,g,_,hb⟩:=aM9 e
      unfold plN plA plD at h
      dsimp only
      rw[ex]at h⊢
      simp only[List.getD_cons_succ,List.getD_cons_zero]at h⊢
      rw[g.hP,g.hQ]at h⊢
      have en:((n:Int)*(m:Int)).toNat=N:=by rw[eN,<- jR];exact bJ _
      rw[en]at h
      simp only[Int.toNat_natCast]at h
      have hN:n*m<=8192:=by rw[<- eN];exact g.le.2.2
      rw[xC (r:=n) (n:=m) (by omega),<- eN]
      refine⟨by simp,by simp,⟨by decide,?_⟩⟩
      refine⟨by simp,by simp,aKg g rfl ?_⟩
      exact h
def Prm8 (p:Prm):Prop:=All8 p.1.2.2/\All8 p.2.2.2.2
def Ten8 (l:List T3):Prop:=∀ t∈l,All8 t.2.2
theorem Ten8.at_ {l:List T3}(h:Ten8 l)(i:Nat):All8 (l.getD i Z3).2.2:=by
 rw[aW]
 cases e:l[i]? with
 | none=>intro y hy;cases hy
 | some t=>exact h t (s7 e)
theorem Prm8.at_ {l:List Prm}(h:∀ p∈l,Prm8 p)(i:Nat):Prm8 (l.getD i gL):=by
 rw[aW]
 cases e:l[i]? with
 | none=>exact⟨fun y hy=>(by cases hy),fun y hy=>(by cases hy)⟩
 | some t=>exact h t (s7 e)
def E3 (l:List T3):T3:=l.getD (l.length-1) Z3
noncomputable def TV (x:Lay)(p:Prm)(l:List T3):T3×Bool×Int :=
 if (x.1==1)=true then((aLm (E3 l) p.1 p.2.2).1,true,(aLm (E3 l) p.1 p.2.2).2)
 else if (x.1==2)=true then((aHo (E3 l) p.1 p.2.2 x.2.2.2.1 x.2.2.2.2.1).1,true,(aHo (E3 l) p.1 p.2.2 x.2.2.2.1 x.2.2.2.2.1).2)
 else if (x.1==4)=true then((aLM (E3 l) x.2.2.1 x.2.2.2.1).1,true,(aLM (E3 l) x.2.2.1 x.2.2.2.1).2)
 else if (x.1==7)=true then((addF (E3 l) (l.getD x.2.2.2.2.2.1.toNat Z3)).1,true,(addF (E3 l) (l.getD x.2.2.2.2.2.1.toNat Z3)).2)
 else(Z3,false,0)
theorem aIC {l:List T3}(h1:l≠[])(h2:l.length<=1000):i64.wrap ((l.length:Int)-1)=((l.length-1:Nat):Int)/\0<l.length:=by
 have:=List.length_pos_iff.2 h1
 exact⟨by rw[aC _];omega,this⟩
theorem aNd {x:Lay}{p:Prm}{l:List T3}{Q:T3×Bool×Int->Prop}(h1:l≠[])(h2:l.length<=1000)(h8:Ten8 l)(hp:Prm8 p)(hx:x.1=7->0<=x.2.2.2.2.2.1/\x.2.2.2.2.2.1<(l.length:Int))(h:Q (TV x p l)):KU x p l Q:=by
 refine⟨?_⟩
 obtain⟨e,hl⟩:=aIC h1 h2
 rw[e]
 simp only[Int.toNat_natCast]
 refine⟨by omega,?_⟩
 unfold TV E3 at h
 split
 ·rename_i e1
  rw[aB e1]at h
  exact aOi (h8.at_ _) hp.1 hp.2 h
 ·rename_i e1
  rw[aA e1]at h
  split
  ·rename_i e2
   rw[aB e2]at h
   exact aMf (h8.at_ _) hp.1 hp.2 h
  ·rename_i e2
   rw[aA e2]at h
   split
   ·rename_i e4
    rw[aB e4]at h
    exact aNt h
   ·rename_i e4
    rw[aA e4]at h
    split
    ·rename_i e7
     rw[aB e7]at h
     exact⟨hx (by simpa using e7),aKH h⟩
    ·rename_i e7
     rw[aA e7]at h
     exact h
noncomputable def rC (x:Lay)(p:Prm)(l:List T3)(s t:Int):T3×List Int×Int :=
 if ((TV x p l).2.2 != 0)=true then(Z3,[],(TV x p l).2.2)
 else if (TV x p l).2.1=true then((vY (TV x p l).1 8 s t).1,[],(vY (TV x p l).1 8 s t).2)
 else if (x.1==3)=true then aKI (E3 l) x.2.2.1 x.2.2.2.1
 else if (x.1==5)=true then((aDM (E3 l)).1,[],(aDM (E3 l)).2)
 else((aCk (E3 l)).1,[],(aCk (E3 l)).2)
theorem YU {x:Lay}{p:Prm}{l:List T3}{s t:Int}{Q:T3×List Int×Int->Prop}(h1:l≠[])(h2:l.length<=1000)(h8:Ten8 l)(hp:Prm8 p)(hx:x.1=7->0<=x.2.2.2.2.2.1/\x.2.2.2.2.2.1<(l.length:Int))(h:Q (rC x p l s t)):G8 x p l s t Q:=by
 refine⟨?_⟩
 refine aNd h1 h2 h8 hp hx ?_
 obtain⟨e,hl⟩:=aIC h1 h2
 rw[e]
 simp only[Int.toNat_natCast]
 unfold rC E3 at h
 split
 ·rename_i e0
  rw[aB e0]at h;exact h
 ·rename_i e0
  rw[aA e0]at h
  split
  ·rename_i e1
   rw[aB e1]at h
   exact aHs h
  ·rename_i e1
   rw[aA e1]at h
   refine⟨by omega,?_⟩
   split
   ·rename_i e2
    rw[aB e2]at h
    exact aO1 h
   ·rename_i e2
    rw[aA e2]at h
    split
    ·rename_i e3
     rw[aB e3]at h
     exact aNU ⟨h⟩
    ·rename_i e3
     rw[aA e3]at h
     exact aMk ⟨h⟩
theorem O2 (x:Int) : -128<=i8.wrap x/\i8.wrap x<=127:=by
 simp only[IntKind.wrap,IntKind.bits,IntKind.signed]
 simp
 split <;> omega
theorem aKq {a:T3}{b s t:Int}:All8 (vY a b s t).1.2.2:=by
 unfold vY
 split
 ·intro y hy;cases hy
 split
 ·intro y hy;cases hy
 ·intro y hy
  unfold aHx at hy
  obtain⟨i,_,rfl⟩:=List.mem_map.1 hy
  exact O2 _
theorem aPT {x:T3}{k s:Int}(h:All8 x.2.2):All8 (aKI x k s).1.2.2:=by
 unfold aKI
 split
 ·intro y hy;cases hy
 ·intro y hy
  obtain⟨a,_,rfl⟩:=List.mem_map.1 hy
  exact h.at_ _
theorem aOV {x:T3}(h:All8 x.2.2):All8 (aDM x).1.2.2:=by
 unfold aDM
 split
 ·intro y hy
  obtain⟨a,ha,rfl⟩:=List.mem_map.1 hy
  have:=h a ha
  unfold aO
  split <;> omega
 ·intro y hy;cases hy
theorem aOK {x:T3}(h:All8 x.2.2):All8 (aCk x).1.2.2:=by
 unfold aCk HX
 split
 ·split
  ·split
   ·exact h
   ·intro y hy;cases hy
  ·intro y hy;cases hy
 ·intro y hy;cases hy
theorem aNP {x:Lay}{p:Prm}{l:List T3}{s t:Int}(h8:Ten8 l):All8 (rC x p l s t).1.2.2:=by
 unfold rC
 split
 ·intro y hy;cases hy
 split
 ·exact aKq
 split
 ·exact aPT (h8.at_ _)
 split
 ·exact aOV (h8.at_ _)
 ·exact aOK (h8.at_ _)
abbrev Act:=List T3×List (List Int)
noncomputable def UJ (ps:List Prm)(s st:Int):List Lay->Nat->Act->Act×Int×Int
 | [],_,a=>(a,0,0)
 | x::r,i,a =>
   if ((rC x (ps.getD i gL) a.1 s (YK st ((i:Int)+1) 0)).2.2 != 0)=true then(([],[]),(i:Int)+1,(rC x (ps.getD i gL) a.1 s (YK st ((i:Int)+1) 0)).2.2)
   else UJ ps s st r (i+1) (a.1++[(rC x (ps.getD i gL) a.1 s (YK st ((i:Int)+1) 0)).1],a.2++[(rC x (ps.getD i gL) a.1 s (YK st ((i:Int)+1) 0)).2.1])
noncomputable def aLh (m:Mdl)(ps:List Prm)(x:T3)(s st:Int):Act×Int×Int :=
 if ((!inP st 0 1000000 || !zU m ps) || !bB x)=true then(([],[]),0,1)
 else if (((x.1.length:Int) != 4) || !decide (x.1.drop 1=inL m))=true then(([],[]),0,2)
 else UJ ps s st m.2 0 ([x],[[]])
theorem aBD {m:Mdl}{ps:List Prm}(h:zU m ps=true):zM m=true/\ps.length=m.2.length:=by
 unfold zU at h
 simp only[aK,dR]at h
 exact⟨(uC h.1.1).1,by omega⟩
theorem aMD {m:Mdl}{ps:List Prm}{s st:Int}{Q:Act×Int×Int->Prop}(hm:zM m=true)(hl:ps.length=m.2.length)(hp:∀ p∈ps,Prm8 p){x:T3}(hx:All8 x.2.2)(h:Q (UJ ps s st m.2 0 ([x],[[]]))) :
 EH ps s st m.2 (m.2.length:Int) (fun y=>Q ((y.1,y.2),0,0)) (fun y=>Q (([],[]),y.1,y.2)) (0,[x],[[]]):=by
 refine⟨?_⟩
 obtain⟨_,⟨k1,k2⟩,k3⟩:=nP hm
 refine Loop.rangeI (B:=u5 ps s st m.2 (m.2.length:Int) (fun y=>Q ((y.1,y.2),0,0)) (fun y=>Q (([],[]),y.1,y.2))) m.2.length
  (fun i z=>z.1=(i:Int)/\z.2.1.length=i+1/\z.2.2.length=i+1/\Ten8 z.2.1/\Q (UJ ps s st (m.2.drop i) i (z.2.1,z.2.2)))
  ⟨rfl,rfl,rfl,(fun t ht=>by rw[List.mem_singleton.1 ht];exact hx),by rw[O0];exact h⟩ ?_ ?_
 ·rintro i hi ⟨z1,z2,z3⟩ ⟨rfl,e1,e2,h8,hq⟩ X hX
  unfold u5
  dsimp only at e1 e2 h8 hq⊢
  rw[aB (aF (show(i:Int)<(m.2.length:Int) by omega))]
  refine⟨by omega,by omega,?_⟩
  rw[aC ((i:Int)+1)]
  simp only[Int.toNat_natCast]
  rw[MK hi]at hq
  have eg:m.2.getD i cA=m.2[i]:=by rw[aW,aQ hi];rfl
  rw[<- eg]at hq
  refine aMY (YU (by intro e;rw[e]at e1;cases e1) (by omega) h8 (Prm8.at_ hp i) ?_ ?_)
  ·intro h7
   have:=MM (k3 i hi) h7
   rw[aC ((i:Int)-1)]at this
   have h0:0<=(m.2.getD i cA).2.2.2.2.2.1:=this.1
   have h1:(m.2.getD i cA).2.2.2.2.2.1<=(i:Int)-1:=this.2
   exact⟨h0,by show(m.2.getD i cA).2.2.2.2.2.1<_;rw[e1];omega⟩
  ·unfold UJ at hq
   by_cases he:((rC (m.2.getD i cA) (ps.getD i gL) z2 s (YK st ((i:Int)+1) 0)).2.2 != 0)=true
   ·rw[aB he]at hq
    rw[aB he]
    exact hq
   ·rw[aA he]at hq
    rw[aA he]
    refine⟨by simp;omega,by simp;omega,hX _ ⟨rfl,by simp[e1],by simp[e2],?_,hq⟩⟩
    intro t ht
    rcases List.mem_append.1 ht with ht|ht
    ·exact h8 t ht
    ·rw[List.mem_singleton.1 ht]
     exact aNP h8
 ·rintro⟨z1,z2,z3⟩ ⟨rfl,e1,e2,h8,hq⟩ X
  unfold u5
  dsimp only at hq⊢
  rw[aA (by simp)]
  rw[SM]at hq
  exact hq
theorem aOw {m:Mdl}{ps:List Prm}{x:T3}{s st:Int}{Q:Act×Int×Int->Prop}(hl:m.2.length<=10000000000000)(hp:∀ p∈ps,Prm8 p)(hx:All8 x.2.2)(h:Q (aLh m ps x s st)):GK m ps x s st Q:=by
 refine⟨?_⟩
 refine aHp ?_
 unfold aLh at h
 refine f7 (c := !zU m ps) (fun _ P hP=>aJ8 hl hP) (fun v e => ?_) rfl
 refine f7 (c := !bB x) (fun _ P hP=>qD hP) (fun v5 e5 => ?_) rfl
 rw[<- e,<- e5]at h
 cases v5 with
 | true=>rw[aB rfl]at h⊢;exact h
 | false =>
   rw[aA (by simp)]at h
   rw[aA (by simp)]
   have hv:v=false/\bB x=true:=by
    have:=e5.symm
    simp only[eI,xS]at this
    exact this
   have hmp:zU m ps=true:=by
    have:=e.symm
    rw[hv.1]at this
    simp only[eI,xS]at this
    exact this.2
   obtain⟨q1,q2⟩:=dD hv.2
   refine f7 (c := !decide (x.1.drop 1=inL m)) (fun hb P hP => ?_) (fun v8 e8 => ?_) rfl
   ·have:(x.1.length:Int)=4:=by simpa using hb
    refine⟨⟨(fun e0=>by rw[e0]at this;simp at this),by omega,by omega,by omega⟩,?_⟩
    have e9:(x.1.take ((x.1.length:Int)).toNat).drop ((1:Int)).toNat=x.1.drop 1:=by rw[bJ,rJ];rfl
    rw[e9]
    exact OR (by simp;omega) hP
   ·rw[<- e8]at h
    cases v8 with
    | true=>rw[aB rfl]at h⊢;exact h
    | false =>
      rw[aA (by simp)]at h
      rw[aA (by simp)]
      refine BD (by omega) (aGJ (by omega) ?_)
      obtain⟨w1,w2⟩:=aBD hmp
      exact aMD w1 w2 hp hx h
end Go.Proofs.YtcfpfefadlnmcaaGreat

namespace Go.Proofs.YtcfpfefadlnmcaaGreat
open IntKind (i8 i16 i32 i64 u8 u16 u32 u64)
open Go.Mach Go.RowKit
set_option maxRecDepth 100000
set_option linter.unusedVariables false
set_option linter.unusedSimpArgs false
theorem aMu {x:Int}(h:(Lit.int i8 x).wf=true) : -128<=x/\x<=127:=by
 have:=aNp h
 have e1:i8.min = -128:=by decide
 have e2:i8.max=127:=by decide
 rw[e1,e2]at this
 exact this
theorem aMM {x n:Int}(h1:1<=x)(h2:x<=4096)(h3:1<=n)(h4:n<=8192):(i64.wrap ((8192:Int).tdiv x)<n) ↔ 8192<n*x:=by
 have e:(8192:Int).tdiv x=8192 / x:=OY (by omega)
 have h5:0<=(8192:Int) / x:=Int.ediv_nonneg (by omega) (by omega)
 have h6:(8192:Int) / x<=8192:=U4 _ (by omega)
 rw[e,aC _,Int.ediv_lt_iff_lt_mul (by omega)]
theorem aDA {acc d:Int}{r:List Int}(h1:1<=acc)(h2:acc<=8192):zE acc (d::r)=if (decide (d<1)||decide (4096<d))=true then 0 else if 8192<acc*d then 0 else zE (acc*d) r:=by
 by_cases hd:(decide (d<1)||decide (4096<d))=true
 ·rw[aB hd]
  unfold zE
  rw[aB (by rw[hd];rfl)]
 ·rw[aA hd]
  simp only[cJ,aT,jA]at hd
  have hb:=FK acc d 8192 4096 (by omega) (by omega) (by omega) (by omega) (by omega)
  have hw:i64.wrap (acc*d)=acc*d:=aC _
  have e1:decide (d<1)=false:=by simp;omega
  have e2:decide (4096<d)=false:=by simp;omega
  by_cases h3:8192<acc*d
  ·rw[aB h3]
   unfold zE
   rw[hw,aB (by simp[h3])]
  ·rw[aA h3]
   show(if ((decide (d<1)||decide (4096<d))||decide (8192<i64.wrap (acc*d)))=true then 0 else zE (i64.wrap (acc*d)) r)=_
   rw[hw,aA (by rw[e1,e2];simp;omega)]
theorem QE {l:List Int}{i:Nat}(h:i<l.length):l.drop i=l.getD i 0::l.drop (i+1):=by
 rw[MK h,aW,aQ h];rfl
theorem aB6 {a d:Int}(h1:1<=a)(h2:1<=d):1<=a*d:=by
 have:=Int.mul_pos (show 0<a by omega) (show 0<d by omega)
 omega
theorem oZ {l:List Int}{Q:Bool->Prop}(h:Q (decide (0<szF l))):bR l Q:=by
 refine⟨?_⟩
 unfold szF at h
 by_cases e:(decide ((l.length:Int)<1)||decide (4<(l.length:Int)))=true
 ·rw[aB e]at h⊢;exact h
 ·rw[aA e]at h⊢
  have hl:l.length<=4:=by simp only[cJ,aT,jA]at e;omega
  obtain⟨z,hz⟩:∃ z,zE 1 l=z:=⟨_,rfl⟩
  rw[hz]at h
  refine⟨?_⟩
  refine Loop.inv (n:=l.length) (fun m s=>∃ i:Nat,i+m=l.length/\s.2=(i:Int)/\1<=s.1/\s.1<=8192/\zE s.1 (l.drop i)=z) ⟨0,by omega,rfl,by show 1<=(1:Int);omega,by show(1:Int)<=8192;omega,hz⟩ ?_
  rintro m ⟨acc,i'⟩ X ⟨i,hi,he,ha,hb,hzz⟩ hX
  simp only at he ha hb hzz
  subst he
  unfold uL
  by_cases hlt:i<l.length
  ·rw[QE hlt,aDA ha hb]at hzz
   rw[aB (aF (show(i:Int)<(l.length:Int) by omega))]
   dsimp only
   refine⟨by omega,?_⟩
   rw[bJ]
   generalize l.getD i 0=d at hzz⊢
   show(if (decide (d<1)||decide (4096<d))=true then _ else _)
   by_cases hd:(decide (d<1)||decide (4096<d))=true
   ·rw[aB hd]at hzz⊢
    show(if true=true then _ else _)
    rw[aB rfl]
    have:decide (0<z)=false:=by rw[<- hzz];rfl
    rw[this]at h;exact h
   ·rw[aA hd]at hzz⊢
    simp only[cJ,aT,jA]at hd
    refine⟨by omega,?_⟩
    have ht:=aMM (x:=d) (n:=acc) (by omega) (by omega) ha hb
    show(if (decide (i64.wrap ((8192:Int).tdiv d)<acc))=true then _ else _)
    by_cases h3:8192<acc*d
    ·rw[aB h3]at hzz
     rw[aB (aF (ht.2 h3))]
     have:decide (0<z)=false:=by rw[<- hzz];rfl
     rw[this]at h;exact h
    ·rw[aA h3]at hzz
     rw[aA (by simp;exact Int.not_lt.1 (fun hh=>h3 (ht.1 hh)))]
     have hb2:=FK acc d 8192 4096 (by omega) (by omega) (by omega) (by omega) (by omega)
     rw[aC (acc*d),aC ((i:Int)+1)]
     exact hX (m-1) _ (by omega) ⟨i+1,by omega,rfl,aB6 ha (by omega),by show acc*d<=8192;omega,hzz⟩
  ·have hil:i=l.length:=by omega
   subst hil
   rw[aA (by simp)]
   rw[SM]at hzz
   unfold zE at hzz
   have:decide (0<z)=true:=by rw[<- hzz];exact aF (by omega)
   rw[this]at h;exact h
theorem A9 {l:List Int}{Q:Int->Prop}(h:Q (szF l)):dI l Q:=by
 refine⟨?_⟩
 refine oZ ?_
 by_cases hp:0<szF l
 ·rw[aA (by simp[hp])]
  have hp2:=hp
  unfold szF at hp2 h
  split at hp2
  ·omega
  ·rename_i e
   rw[aA e]at h
   have hl:l.length<=4:=by simp only[cJ,aT,jA]at e;omega
   obtain⟨z,hz⟩:∃ z,zE 1 l=z:=⟨_,rfl⟩
   rw[hz]at h hp2
   refine⟨?_⟩
   refine Loop.inv (n:=l.length) (fun m s=>∃ i:Nat,i+m=l.length/\s.2=(i:Int)/\1<=s.1/\s.1<=8192/\zE s.1 (l.drop i)=z) ⟨0,by omega,rfl,by show 1<=(1:Int);omega,by show(1:Int)<=8192;omega,hz⟩ ?_
   rintro m ⟨acc,i'⟩ X ⟨i,hi,he,ha,hb,hzz⟩ hX
   simp only at he ha hb hzz
   subst he
   unfold yB
   by_cases hlt:i<l.length
   ·rw[QE hlt,aDA ha hb]at hzz
    rw[aB (aF (show(i:Int)<(l.length:Int) by omega))]
    dsimp only
    refine⟨by omega,?_⟩
    rw[bJ]
    generalize l.getD i 0=d at hzz⊢
    split at hzz
    ·omega
    ·rename_i hd
     simp only[cJ,aT,jA]at hd
     split at hzz
     ·omega
     ·have hb2:=FK acc d 8192 4096 (by omega) (by omega) (by omega) (by omega) (by omega)
      rw[aC (acc*d),aC ((i:Int)+1)]
      exact hX (m-1) _ (by omega) ⟨i+1,by omega,rfl,aB6 ha (by omega),by show acc*d<=8192;omega,hzz⟩
   ·have hil:i=l.length:=by omega
    subst hil
    rw[aA (by simp)]
    rw[SM]at hzz
    unfold zE at hzz
    dsimp only
    rw[hzz]
    exact h
 ·rw[aB (by simp;omega)]
  have:szF l=0:=by have:=AZ l;omega
  rw[this]at h;exact h
theorem aNN {n k s p:Int}{Q:Int->Prop}(hp : -1000000<=p/\p<=1000000)(h:Q (bA n k s p)):fN n k s p Q:=by
 refine⟨?_⟩
 unfold bA AD inP at h
 by_cases h1:(1<=n/\n<=16)/\(1<=k/\k<=5)
 ·rw[aC (2*p),aC (n+2*p)]
  by_cases h2:(1<=s/\s<=4)/\(0<=p/\p<=k-1)/\k<=n+2*p
  ·rw[aA (by simp;omega)]at h
   rw[aA (by simp;omega)]
   have d0:0<=(n+2*p-k) / s:=Int.ediv_nonneg (by omega) (by omega)
   have d1:(n+2*p-k) / s<=n+2*p-k:=U4 _ (by omega)
   refine⟨by omega,?_⟩
   rw[aC (n+2*p-k),OY (by omega),aC ((n+2*p-k) / s),aC _]
   exact h
  ·rw[aB (by simp;omega)]at h
   rw[aB (by simp;omega)]
   exact h
 ·rw[aB (by simp;omega)]at h
  rw[aB (by simp;omega)]
  exact h
end Go.Proofs.YtcfpfefadlnmcaaGreat
