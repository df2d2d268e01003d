/- Part of the proof. No condition. -/
import Derived.Test.YtcfpfefadlnmcaaGreatYVStr
import Derived.Test.YtcfpfefadlnmcaaGreatProg
import Derived.KernelRfl
namespace Go.Proofs.YtcfpfefadlnmcaaGreat
open IntKind (i8 i16 i32 i64 u8 u16 u32 u64)
open Go.Mach
set_option maxRecDepth 100000
set_option linter.unusedVariables false
noncomputable section
abbrev TT7:Ty:=(.pair (.int .i64) (.pair (.int .i64) (.pair .bool (.int .u8))))
abbrev aOD:Ty:=(.pair .str (.int .u64))
abbrev aIl:Ty:=(.pair (.pair (.int .i64) (.pair (.int .i64) (.int .i64))) (.slc (.pair (.int .i64) (.pair (.int .i64) (.pair (.int .i64) (.pair (.int .i64) (.pair (.int .i64) (.pair (.int .i64) .bool))))))))
abbrev Q4:Type:=(Int×Int×Int)×List (Int×Int×Int×Int×Int×Int×Bool)
abbrev aY:Ty:=(.pair (.slc aD) (.pair (.int .i64) (.slc aI)))
abbrev bL:Type:=(List Int)×Int×List Int
abbrev dN:Ty:=(.pair aY (.pair (.slc aX) aY))
abbrev iL:Type:=bL×(List Int)×bL
abbrev aKx:Ty:=(.pair (.slc aY) (.slc (.slc aD)))
abbrev aLT:Type:=(List bL)×List (List Int)
abbrev aOr:Ty:=(.pair aIl (.pair (.int .u64) (.pair (.slc aI) (.pair (.int .i64) (.pair (.slc aI) (.int .i64))))))
abbrev aO8:Type:=Q4×Int×(List Int)×Int×(List Int)×Int
abbrev cP:Ty:=(.pair (.int .i64) (.pair (.int .i64) (.pair (.int .i64) (.pair (.int .i64) (.pair (.int .i64) (.pair (.int .i64) .bool))))))
abbrev nR:Type:=Int×Int×Int×Int×Int×Int×Bool
abbrev uF:Ty:=(.pair (.slc aD) (.pair (.int .i64) (.slc aX)))
abbrev pQ:Type:=(List Int)×Int×List Int
abbrev gX:Ty:=(.pair .bool (.pair uF uF))
abbrev wO:Type:=Bool×pQ×pQ
abbrev aMx:Ty:=(.pair aIl (.pair (.slc dN) (.pair aKx (.pair (.slc (.ref aY)) (.pair (.int .u64) (.int .i64))))))
abbrev aKL:Ty:=(.pair (.slc aY) (.pair (.int .u64) (.int .i64)))
abbrev aF1:Ty:=(.pair (.int .i64) (.pair (.int .i64) (.pair (.int .i64) (.pair (.int .i64) (.pair (.int .i64) (.int .i64))))))
abbrev aMc:Type:=Int×Int×Int×Int×Int×Int
abbrev bM:Ty:=(.pair (.int .i64) (.pair (.int .i64) (.int .i64)))
abbrev aZ:Type:=Int×Int×Int
abbrev aJT:Ty:=(.pair (.int .i64) aF1)
abbrev aJ1:Type:=Int×aMc
abbrev aMa:Ty:=(.pair (.int .i64) (.pair (.int .i64) bM))
abbrev aMW:Type:=Int×Int×aZ
noncomputable def tt:TypeId->Option Ty:=fun t=>match t with
 | 2=>some (.int .i64)
 | 3=>some (.int .i64)
 | 4=>some .bool
 | 5=>some (.int .u8)
 | 6=>some (.int .u8)
 | 7=>some TT7
 | 8=>some TT7
 | 9=>some .str
 | 10=>some .str
 | 11=>some .str
 | 12=>some (.int .u64)
 | 13=>some aOD
 | 14=>some aOD
 | 21=>some (.int .i32)
 | 22=>some bM
 | 23=>some (.slc cP)
 | 24=>some aIl
 | 25=>some aIl
 | 26=>some (.slc dN)
 | 27=>some (.slc aD)
 | 28=>some (.slc aI)
 | 29=>some aY
 | 30=>some aY
 | 31=>some (.int .u64)
 | 33=>some (.slc aX)
 | 34=>some dN
 | 35=>some dN
 | 36=>some (.slc aY)
 | 37=>some (.slc (.slc aD))
 | 38=>some aKx
 | 39=>some aKx
 | 40=>some (.int .i64)
 | 43=>some aKx
 | 48=>some aOr
 | 49=>some aOr
 | 53=>some (.slc gX)
 | 60=>some cP
 | 61=>some cP
 | 64=>some uF
 | 65=>some uF
 | 66=>some gX
 | 67=>some gX
 | 73=>some (.int .i8)
 | 94=>some (.ref aMx)
 | 95=>some (.slc (.ref aY))
 | 96=>some aMx
 | 97=>some aMx
 | 99=>some (.ref aY)
 | 103=>some (.ref aKL)
 | 104=>some aKL
 | 105=>some aKL
 | 107=>some (.ref gX)
 | 145=>some aF1
 | 146=>some aF1
 | 160=>some (.slc bM)
 | 162=>some bM
 | 163=>some bM
 | 169=>some (.int .u64)
 | 189=>some aJT
 | 190=>some aJT
 | 198=>some aF1
 | 200=>some aMa
 | 201=>some aMa
 | 203=>some .cpx
 | 207=>some .flt
 | 217=>some (.int .u32)
 | 218=>some (.int .u8)
 | 219=>some (.int .u8)
 | 222=>some (.int .i32)
 | 223=>some (.int .i32)
 | _=>none
noncomputable def T__:Tb Tryz.prog:=Tb.none
def MX (x1:List Int)(x2:Int)(K0:Int->Prop)(K1:Unit->Prop)(s:Int×Int)(nx:(Int×Int)->Prop):Prop :=
 if (decide (s.2<x2))=true then ck (aG s.2 x1.length) (if (((decide ((x1.getD ((s.2).toNat) 0)<1))||(decide (4096<(x1.getD ((s.2).toNat) 0))))||(decide (8192<(i64.wrap (s.1*(x1.getD ((s.2).toNat) 0))))))=true then K1 ()else nx (i64.wrap (s.1*(x1.getD ((s.2).toNat) 0)),i64.wrap (s.2+1)))else K0 s.1
structure RR (x1:List Int)(x2:Int)(K0:Int->Prop)(K1:Unit->Prop)(s:Int×Int):Prop where
 it:Go.Mach.Loop (MX x1 x2 K0 K1) s
structure pN (a0:List Int)(Q:Int->Prop):Prop where
 it:if ((decide ((a0.length:Int)<1))||(decide (4<(a0.length:Int))))=true then Q 0 else RR a0 (a0.length:Int) (fun y1=>Q y1) (fun _=>Q 0) (1,0)
def aCB:Ent:=⟨[3,14,15,16],[sI,sZ aD,sI,sI],[],fun⟨⟨a,b,c,d,_⟩,_⟩ k=>RR b c (fun y3=>k (.exit 0) ⟨[(3,vI y3)],[]⟩) (fun _=>k .ret ⟨[(2,vI 0)],[]⟩) (a,d)⟩
def aEY:=T__.put tt 54 Tryz.func54 [2] [] [(122,aCB)] [sZ aD] [] [(false,aD)] (fun x=>pN x.1) ⟨fun _ _ hs ⟨⟨a,b,c,d,_⟩,_⟩ _ h=>aH hs (fun y=>⟨⟨y.1,b,c,y.2,()⟩,()⟩) (a,d) h.it,trivial⟩ fun _ _ h=>⟨_,h.it,by kernel_rfl⟩
structure kM (a0:List Int)(Q:Bool->Prop):Prop where
 it:pN a0 (fun r1=>Q (decide (0<r1)))
def aFg:=aEY.put tt 53 Tryz.func53 [2] [] [] [sZ aD] [] [(false,.bool)] (fun x=>kM x.1) trivial fun _ _ h=>⟨_,h.it,by kernel_rfl⟩
structure EU (a0 a1:Int)(Q:Bool->Prop):Prop where
 it:Q ((decide ((i64.wrap (0-a1))<=a0))&&(decide (a0<=a1)))
def aD8:=aFg.put tt 55 Tryz.func55 [4] [] [] [sI,sI] [] [(false,.bool)] (fun x=>EU x.1 x.2.1) trivial fun _ _ h=>⟨_,h.it,by kernel_rfl⟩
def iY (x0:List Int)(x1 x2:Int)(K0:Unit->Prop)(K1:Int->Prop)(s:Int)(nx:Int->Prop):Prop :=
 if (decide (s<x2))=true then ck (aG s x0.length) (if (x1==(x0.getD ((s).toNat) 0))=true then K1 s else nx (i64.wrap (s+1)))else K0 ()
structure vF (x0:List Int)(x1 x2:Int)(K0:Unit->Prop)(K1:Int->Prop)(s:Int):Prop where
 it:Go.Mach.Loop (iY x0 x1 x2 K0 K1) s
structure zK (a0:List Int)(a1:Int)(Q:Int->Prop):Prop where
 it:vF a0 a1 (a0.length:Int) (fun _=>Q (-1)) (fun y2=>Q y2) 0
def FS:Ent:=⟨[0,1,7,8],[sZ aI,.lf (.int .i8),sI,sI],[],fun⟨⟨a,b,c,d,_⟩,_⟩ k=>vF a b c (fun _=>k (.exit 0) ⟨[],[]⟩) (fun y4=>k .ret ⟨[(4,vI y4)],[]⟩) d⟩
def HN:=aD8.put tt 96 Tryz.func96 [4] [] [(26,FS)] [sZ aI,.lf (.int .i8)] [] [(false,aD)] (fun x=>zK x.1 x.2.1) ⟨fun _ _ hs ⟨⟨a,b,c,d,_⟩,_⟩ _ h=>aH hs (fun y=>⟨⟨a,b,c,y,()⟩,()⟩) d h.it,trivial⟩ fun _ _ h=>⟨_,h.it,by kernel_rfl⟩
structure oX (a0:List Int)(a1:Int)(Q:Bool->Prop):Prop where
 it:zK a0 a1 (fun r1=>Q (decide (0<=r1)))
def DV:=HN.put tt 56 Tryz.func56 [4] [] [] [sZ aI,.lf (.int .i8)] [] [(false,.bool)] (fun x=>oX x.1 x.2.1) trivial fun _ _ h=>⟨_,h.it,by kernel_rfl⟩
structure cS (a0:bL)(Q:Bool->Prop):Prop where
 it:kM a0.1 (fun r1=>jn (fun v2=>jn (fun v5=>jn (fun v8=>Q v8) (fun J9=>if v5=true then oX a0.2.2 (-128) (fun r10=>J9 (!r10))else J9 false)) (fun J6=>if v2=true then EU a0.2.1 64 (fun r7=>J6 r7)else J6 false)) (fun J3=>if r1=true then pN a0.1 (fun r4=>J3 ((a0.2.2.length:Int)==r4))else J3 false))
def aE0:=DV.put tt 26 Tryz.func26 [2] [] [] [.agg cO] [] [(false,.bool)] (fun x=>cS (x.1.1,(x.1.2.1,x.1.2.2.1))) trivial fun _ _ h=>⟨_,h.it,by kernel_rfl⟩
def zO (x2:List bL)(x3:Int)(K0 K1:Unit->Prop)(s:Int)(nx:Int->Prop):Prop :=
 if (decide (s<x3))=true then ck (aG s x2.length) (cS (x2.getD ((s).toNat) ([],(0,[]))) (fun r1=>if (!r1)=true then K1 ()else nx (i64.wrap (s+1))))else K0 ()
structure TJ (x2:List bL)(x3:Int)(K0 K1:Unit->Prop)(s:Int):Prop where
 it:Go.Mach.Loop (zO x2 x3 K0 K1) s
def yR (x0:Int)(x1:List bL)(x2:Int)(K0 K1:Unit->Prop)(s:Int)(nx:Int->Prop):Prop :=
 if (decide (s<x2))=true then ck (aG s x1.length) (if ((((x1.getD ((s).toNat) ([],(0,[]))).1).length:Int) != x0)=true then K1 ()else nx (i64.wrap (s+1)))else K0 ()
structure T0 (x0:Int)(x1:List bL)(x2:Int)(K0 K1:Unit->Prop)(s:Int):Prop where
 it:Go.Mach.Loop (yR x0 x1 x2 K0 K1) s
structure D9 (a0:Int)(a1:List bL)(Q:Int->Prop):Prop where
 it:TJ a1 (a1.length:Int) (fun _=>T0 a0 a1 (a1.length:Int) (fun _=>Q 0) (fun _=>Q 2) 0) (fun _=>Q 1) 0
def aDt:Ent:=⟨[0,1,9,10,11],[sI,sZ aY,sZ aY,sI,sI],[],fun⟨⟨a,b,c,d,e,_⟩,_⟩ k=>TJ c d (fun _=>k (.exit 0) ⟨[(0,vI a),(1,vZ aY b)],[]⟩) (fun _=>k .ret ⟨[(4,vI 1)],[]⟩) e⟩
def aEN:Ent:=⟨[0,19,20,21],[sI,sZ aY,sI,sI],[],fun⟨⟨a,b,c,d,_⟩,_⟩ k=>T0 a b c (fun _=>k (.exit 2) ⟨[],[]⟩) (fun _=>k .ret ⟨[(4,vI 2)],[]⟩) d⟩
def aEx:=aE0.put tt 155 Tryz.func155 [4] [] [(26,aDt),(58,aEN)] [sI,sZ aY] [] [(false,aD)] (fun x=>D9 x.1 x.2.1) ⟨fun _ _ hs ⟨⟨a,b,c,d,e,_⟩,_⟩ _ h=>aH hs (fun y=>⟨⟨a,b,c,d,y,()⟩,()⟩) e h.it,fun _ _ hs ⟨⟨a,b,c,d,_⟩,_⟩ _ h=>aH hs (fun y=>⟨⟨a,b,c,y,()⟩,()⟩) d h.it,trivial⟩ fun _ _ h=>⟨_,h.it,by kernel_rfl⟩
structure xN (a0:Int)(Q:Bool->Prop):Prop where
 it:Q (((decide (0<=a0))&&(decide (a0<=1023)))&&(decide ((i64.wrap ((i64.wrap (a0*16384))+1048576))<16777216)))
def aEG:=aEx.put tt 184 Tryz.func184 [2] [] [] [sI] [] [(false,.bool)] (fun x=>xN x.1) trivial fun _ _ h=>⟨_,h.it,by kernel_rfl⟩
structure jZ (a0 a1 a2:Int)(Q:Int->Prop):Prop where
 it:Q (aO a1 (aV a0 a2))
def N7:=aEG.put tt 170 Tryz.func170 [6] [] [] [sI,sI,sI] [] [(false,aD)] (fun x=>jZ x.1 x.2.1 x.2.2.1) trivial fun _ _ h=>⟨_,h.it,by kernel_rfl⟩
structure xZ (a0:Int)(Q:Int->Prop):Prop where
 it:jZ a0 (-4611686018427387904) 4611686018427387904 (fun r1=>Q r1)
def aCN:=N7.put tt 167 Tryz.func167 [2] [] [] [sI] [] [(false,aD)] (fun x=>xZ x.1) trivial fun _ _ h=>⟨_,h.it,by kernel_rfl⟩
structure l5 (a0 a1 a2:Int)(Q:Int->Prop):Prop where
 it:Q (aO a1 (aV a0 a2))
def Q1:=aCN.put tt 169 Tryz.func169 [6] [] [] [sI,sI,sI] [] [(false,aD)] (fun x=>l5 x.1 x.2.1 x.2.2.1) trivial fun _ _ h=>⟨_,h.it,by kernel_rfl⟩
structure yL (a0 a1 a2:Int)(Q:Int->Prop):Prop where
 it:xZ a0 (fun r1=>l5 a1 (-1000) 1000 (fun r2=>l5 a2 (-1000) 1000 (fun r3=>if (decide ((i64.wrap (r2-r3))<0))=true then ck ((0:Int)<=(aV (i64.wrap (0-(i64.wrap (r2-r3)))) 62)) (Q ((r1).fdiv (2 ^ (min (aV (i64.wrap (0-(i64.wrap (r2-r3)))) 62).toNat (i64).bits))))else if ((decide (20<(i64.wrap (r2-r3))))&&(decide (0<r1)))=true then Q 1048576 else if ((decide (20<(i64.wrap (r2-r3))))&&(decide (r1<0)))=true then Q (-1048576)else if (decide (20<(i64.wrap (r2-r3))))=true then Q 0 else jZ r1 (-1048576) 1048576 (fun r4=>ck ((0:Int)<=(i64.wrap (r2-r3))) (jZ (i64.wrap (r4*2 ^ (min (i64.wrap (r2-r3)).toNat (i64).bits))) (-1048576) 1048576 (fun r5=>Q r5))))))
def aCG:=Q1.put tt 158 Tryz.func158 [6] [] [] [sI,sI,sI] [] [(false,aD)] (fun x=>yL x.1 x.2.1 x.2.2.1) trivial fun _ _ h=>⟨_,h.it,by kernel_rfl⟩
def o9 (x0 x1 x2:Int)(x5 x8:List Int)(x10:Int)(K0:Int->Prop)(s:Int×Int)(nx:(Int×Int)->Prop):Prop :=
 if (decide (s.2<x10))=true then ck (aG (i64.wrap ((i64.wrap (x0*x2))+s.2)) x5.length) (ck (aG (i64.wrap ((i64.wrap (x1*x2))+s.2)) x8.length) (nx (i64.wrap (s.1+(i64.wrap ((i64.wrap (x5.getD ((i64.wrap ((i64.wrap (x0*x2))+s.2)).toNat) 0))*(i64.wrap (x8.getD ((i64.wrap ((i64.wrap (x1*x2))+s.2)).toNat) 0))))),i64.wrap (s.2+1))))else K0 s.1
structure E8 (x0 x1 x2:Int)(x5 x8:List Int)(x10:Int)(K0:Int->Prop)(s:Int×Int):Prop where
 it:Go.Mach.Loop (o9 x0 x1 x2 x5 x8 x10 K0) s
structure xL (a0 a1:Int)(a2:List Int)(a3:Int)(a4:List Int)(a5 a6:Int)(a7:List Int)(a8:Int)(a9 a10:List Int)(a11:Int)(a12:List Int)(Q:Int->Prop):Prop where
 it:ck (aG a1 a4.length) (yL (i64.wrap (a4.getD ((a1).toNat) 0)) a3 a5 (fun r1=>E8 a0 a1 a6 a9 a12 a6 (fun y2=>Q y2) (r1,0)))
def SB:Ent:=⟨[0,1,4,5,6,10,22,23],[sI,sI,.bx [lI],.bx cO,.bx cO,sI,sI,sI],[],fun⟨⟨a,b,⟨c,_⟩,⟨_,_,f,_⟩,⟨_,_,j,_⟩,l,m,n,_⟩,_⟩ k=>E8 a b c f j m (fun y3=>k (.exit 0) ⟨[(10,vI y3)],[]⟩) (l,n)⟩
def UK:=aCG.put tt 157 Tryz.func157 [9] [] [(58,SB)] [sI,sI,.bx cO,.bx [lI],.bx [lI],.bx cO,.bx cO] [] [(false,aD)] (fun x=>xL x.1 x.2.1 x.2.2.1.1 x.2.2.1.2.1 x.2.2.1.2.2.1 x.2.2.2.1.1 x.2.2.2.2.1.1 x.2.2.2.2.2.1.1 x.2.2.2.2.2.1.2.1 x.2.2.2.2.2.1.2.2.1 x.2.2.2.2.2.2.1.1 x.2.2.2.2.2.2.1.2.1 x.2.2.2.2.2.2.1.2.2.1) ⟨fun _ _ hs ⟨⟨a,b,⟨c,_⟩,⟨d,e,f,_⟩,⟨g,i,j,_⟩,l,m,n,_⟩,_⟩ _ h=>aH hs (fun y=>⟨⟨a,b,⟨c,()⟩,⟨d,e,f,()⟩,⟨g,i,j,()⟩,y.1,m,y.2,()⟩,()⟩) (l,n) h.it,trivial⟩ fun _ _ h=>⟨_,h.it,by kernel_rfl⟩
def jJ (x1:List Int)(x2:Int)(x3:List Int)(x4 x5:Int)(x6:List Int)(x7:Int)(x8 x9:List Int)(x10:Int)(x11:List Int)(x12 x15:Int)(K0:(List Int)->Prop)(s:Int×List Int)(nx:(Int×List Int)->Prop):Prop :=
 if (decide (s.1<x15))=true then xL x12 s.1 x1 x2 x3 x4 x5 x6 x7 x8 x9 x10 x11 (fun r6=>ck ((s.2.length+[i32.wrap r6].length)*4<=140737488355328) (nx (i64.wrap (s.1+1),s.2++[i32.wrap r6])))else K0 s.2
structure qF (x1:List Int)(x2:Int)(x3:List Int)(x4 x5:Int)(x6:List Int)(x7:Int)(x8 x9:List Int)(x10:Int)(x11:List Int)(x12 x15:Int)(K0:(List Int)->Prop)(s:Int×List Int):Prop where
 it:Go.Mach.Loop (jJ x1 x2 x3 x4 x5 x6 x7 x8 x9 x10 x11 x12 x15 K0) s
def fR (x0:Int)(x1:List Int)(x2:Int)(x3:List Int)(x4 x5:Int)(x6:List Int)(x7:Int)(x8 x9:List Int)(x10:Int)(x11:List Int)(x12:Int)(K0:(List Int)->Prop)(s:Int×List Int)(nx:(Int×List Int)->Prop):Prop :=
 if (decide (s.1<x12))=true then qF x1 x2 x3 x4 x5 x6 x7 x8 x9 x10 x11 s.1 x0 (fun y6=>nx (i64.wrap (s.1+1),y6)) (0,s.2)else K0 s.2
structure qI (x0:Int)(x1:List Int)(x2:Int)(x3:List Int)(x4 x5:Int)(x6:List Int)(x7:Int)(x8 x9:List Int)(x10:Int)(x11:List Int)(x12:Int)(K0:(List Int)->Prop)(s:Int×List Int):Prop where
 it:Go.Mach.Loop (fR x0 x1 x2 x3 x4 x5 x6 x7 x8 x9 x10 x11 x12 K0) s
structure i6 (a0 a1 a2 a3:Int)(a4:List Int)(a5:Int)(a6:List Int)(a7 a8:Int)(a9:List Int)(a10:Int)(a11 a12:List Int)(a13:Int)(a14:List Int)(Q:(pQ×Int)->Prop):Prop where
 it:xN a2 (fun r1=>if (((!r1)||(decide (128<a3)))||(decide (a3<(-128))))=true then Q ((([]:List Int),(0,([]:List Int))),3)else kM [a0,a1] (fun r2=>if (!r2)=true then Q ((([]:List Int),(0,([]:List Int))),1)else qI a1 a4 a5 a6 a7 a8 a9 a10 a11 a12 a13 a14 a0 (fun y7=>Q (([a0,a1],(a3,y7)),0)) (0,([]:List Int))))
def A2:Ent:=⟨[1,4,10,12,39,40],[sI,.fn 157 [.bx cO,.bx [lI],.bx [lI],.bx cO,.bx cO],sPt 0,sPt 1,sI,sI],[dJ,.box [.cst (.own 2),lI,eD] false,oQa],fun⟨⟨a,⟨⟨b,c,d,_⟩,⟨e,_⟩,⟨f,_⟩,⟨g,i,j,_⟩,⟨l,m,n,_⟩,_⟩,_,_,o,p,_⟩,⟨⟨_,q,_⟩,⟨_,t,_⟩,u,_⟩⟩ k=>qI a b c d e f g i j l m n o (fun y8=>k (.exit 1) ⟨[(10,.ptr 0 0),(12,.ptr 1 0)],[.box [aL,vI q,aL] false,.box [.own 2,vI t,.own 3] false,.lst true aD u false,.lst true aX y8 false]⟩) (p,([]:List Int))⟩
def AP:Ent:=⟨[1,4,10,12,13,39,40,43,44],[sI,.fn 157 [.bx cO,.bx [lI],.bx [lI],.bx cO,.bx cO],sPt 0,sPt 1,sI,sI,sI,sI,sI],[dJ,.box [.cst (.own 2),lI,.cst (.own 3)] false,oQa,oQc],fun⟨⟨a,⟨⟨b,c,d,_⟩,⟨e,_⟩,⟨f,_⟩,⟨g,i,j,_⟩,⟨l,m,n,_⟩,_⟩,_,_,o,p,q,t,u,_⟩,⟨⟨_,w,_⟩,⟨_,z,_⟩,a0,a1,_⟩⟩ k=>qF b c d e f g i j l m n o t (fun y9=>k (.exit 3) ⟨[(1,vI a),(4,.fn 157 [.bx [vZ aD b,vI c,vZ aI d] 0,.bx [vI e] 0,.bx [vI f] 0,.bx [vZ aD g,vI i,vZ aI j] 0,.bx [vZ aD l,vI m,vZ aI n] 0]),(10,.ptr 0 0),(12,.ptr 1 0),(39,vI p),(40,vI q)],[.box [aL,vI w,aL] false,.box [.own 2,vI z,.own 3] false,.lst true aD a0 false,.lst true aX y9 false]⟩) (u,a1)⟩
def BQ:=UK.putX tt 156 Tryz.func156 [10,11] [(122,[⟨12,some 2,false,aX⟩]),(31334,[⟨12,some 2,false,aX⟩])] [(122,A2),(31334,AP)] [sI,sI,sI,sI,.fn 157 [.bx cO,.bx [lI],.bx [lI],.bx cO,.bx cO]] [] [(true,uF),(false,aD)] (fun x=>i6 x.1 x.2.1 x.2.2.1 x.2.2.2.1 x.2.2.2.2.1.1.1 x.2.2.2.2.1.1.2.1 x.2.2.2.2.1.1.2.2.1 x.2.2.2.2.1.2.1.1 x.2.2.2.2.1.2.2.1.1 x.2.2.2.2.1.2.2.2.1.1 x.2.2.2.2.1.2.2.2.1.2.1 x.2.2.2.2.1.2.2.2.1.2.2.1 x.2.2.2.2.1.2.2.2.2.1.1 x.2.2.2.2.1.2.2.2.2.1.2.1 x.2.2.2.2.1.2.2.2.2.1.2.2.1) [157] none false 0 hI0 ⟨fun _ _ hs ⟨⟨a,⟨⟨b,c,d,_⟩,⟨e,_⟩,⟨f,_⟩,⟨g,i,j,_⟩,⟨l,m,n,_⟩,_⟩,_,_,o,p,_⟩,⟨⟨_,q,_⟩,⟨_,t,_⟩,u,_⟩⟩ _ h=>dS hs (fun y=>⟨[(1,vI a),(4,.fn 157 [.bx [vZ aD b,vI c,vZ aI d] 0,.bx [vI e] 0,.bx [vI f] 0,.bx [vZ aD g,vI i,vZ aI j] 0,.bx [vZ aD l,vI m,vZ aI n] 0]),(10,.ptr 0 0),(12,.ptr 1 0),(39,vI o),(40,vI y.1)],[.box [aL,vI q,aL] false,.box [.own 2,vI t,.own 3] false,.lst true aD u false,.lst true aX y.2 false]⟩) (p,([]:List Int)) h.it,fun _ _ hs ⟨⟨a,⟨⟨b,c,d,_⟩,⟨e,_⟩,⟨f,_⟩,⟨g,i,j,_⟩,⟨l,m,n,_⟩,_⟩,_,_,o,p,q,t,u,_⟩,⟨⟨_,w,_⟩,⟨_,z,_⟩,a0,a1,_⟩⟩ _ h=>aH hs (fun y=>⟨⟨a,⟨⟨b,c,d,()⟩,⟨e,()⟩,⟨f,()⟩,⟨g,i,j,()⟩,⟨l,m,n,()⟩,()⟩,(),(),o,p,q,t,y.1,()⟩,⟨⟨(),w,(),()⟩,⟨(),z,(),()⟩,a0,y.2,()⟩⟩) (u,a1) h.it,trivial⟩ fun _ _ h=>⟨_,h.it,by kernel_rfl⟩
structure G9 (a0 a1 a2:bL)(Q:(pQ×Int)->Prop):Prop where
 it:cS a2 (fun r1=>if (!r1)=true then Q ((([]:List Int),(0,([]:List Int))),1)else D9 2 [a0,a1] (fun r2=>if (r2 != 0)=true then Q ((([]:List Int),(0,([]:List Int))),r2)else ck (aG 0 a0.1.length) (ck (aG 1 a0.1.length) (ck (aG 0 a1.1.length) (ck (aG 1 a1.1.length) (jn (fun v3=>if v3=true then Q ((([]:List Int),(0,([]:List Int))),2)else i6 (a0.1.getD 0 0) (a1.1.getD 0 0) (a0.1.getD 1 0) (i64.wrap (a0.2.1+a1.2.1)) a2.1 a2.2.1 a2.2.2 (i64.wrap (a0.2.1+a1.2.1)) (a0.1.getD 1 0) a0.1 a0.2.1 a0.2.2 a1.1 a1.2.1 a1.2.2 (fun r5=>Q (r5.1,r5.2))) (fun J4=>if (((a1.1.getD 1 0) != (a0.1.getD 1 0))||((a2.1.length:Int) != 1))=true then J4 true else ck (aG 0 a2.1.length) (J4 ((a2.1.getD 0 0) != (a1.1.getD 0 0))))))))))
def X2:=BQ.put tt 97 Tryz.func97 [6,7] [] [] [.agg cO,.agg cO,.agg cO] [] [(true,uF),(false,aD)] (fun x=>G9 (x.1.1,(x.1.2.1,x.1.2.2.1)) (x.2.1.1,(x.2.1.2.1,x.2.1.2.2.1)) (x.2.2.1.1,(x.2.2.1.2.1,x.2.2.1.2.2.1))) trivial fun _ _ h=>⟨_,h.it,by kernel_rfl⟩
def BB (x1:List bL)(x2:Int)(K0 K1:Unit->Prop)(s:Int)(nx:Int->Prop):Prop :=
 if (decide (s<x2))=true then ck (aG s x1.length) (cS (x1.getD ((s).toNat) ([],(0,[]))) (fun r1=>if (!r1)=true then K1 ()else nx (i64.wrap (s+1))))else K0 ()
structure WZ (x1:List bL)(x2:Int)(K0 K1:Unit->Prop)(s:Int):Prop where
 it:Go.Mach.Loop (BB x1 x2 K0 K1) s
def A7 (x0:List bL)(x1:Int)(K0 K1:Unit->Prop)(s:Int)(nx:Int->Prop):Prop :=
 if (decide (s<x1))=true then ck (aG s x0.length) (if ((((x0.getD ((s).toNat) ([],(0,[]))).1).length:Int) != 4)=true then K1 ()else nx (i64.wrap (s+1)))else K0 ()
structure W4 (x0:List bL)(x1:Int)(K0 K1:Unit->Prop)(s:Int):Prop where
 it:Go.Mach.Loop (A7 x0 x1 K0 K1) s
structure J0 (a0:List bL)(Q:Int->Prop):Prop where
 it:WZ a0 (a0.length:Int) (fun _=>W4 a0 (a0.length:Int) (fun _=>Q 0) (fun _=>Q 2) 0) (fun _=>Q 1) 0
def aGG:Ent:=⟨[0,7,8,9],[sZ aY,sZ aY,sI,sI],[],fun⟨⟨a,b,c,d,_⟩,_⟩ k=>WZ b c (fun _=>k (.exit 0) ⟨[(0,vZ aY a)],[]⟩) (fun _=>k .ret ⟨[(2,vI 1)],[]⟩) d⟩
def aF0:Ent:=⟨[17,18,19],[sZ aY,sI,sI],[],fun⟨⟨a,b,c,_⟩,_⟩ k=>W4 a b (fun _=>k (.exit 2) ⟨[],[]⟩) (fun _=>k .ret ⟨[(2,vI 2)],[]⟩) c⟩
def aH5:=X2.put tt 159 Tryz.func159 [2] [] [(26,aGG),(58,aF0)] [sZ aY] [] [(false,aD)] (fun x=>J0 x.1) ⟨fun _ _ hs ⟨⟨a,b,c,d,_⟩,_⟩ _ h=>aH hs (fun y=>⟨⟨a,b,c,y,()⟩,()⟩) d h.it,fun _ _ hs ⟨⟨a,b,c,_⟩,_⟩ _ h=>aH hs (fun y=>⟨⟨a,b,y,()⟩,()⟩) c h.it,trivial⟩ fun _ _ h=>⟨_,h.it,by kernel_rfl⟩
structure JL (a0 a1 a2:Int)(Q:Bool->Prop):Prop where
 it:Q ((decide (a1<=a0))&&(decide (a0<=a2)))
def aG5:=aH5.put tt 186 Tryz.func186 [6] [] [] [sI,sI,sI] [] [(false,.bool)] (fun x=>JL x.1 x.2.1 x.2.2.1) trivial fun _ _ h=>⟨_,h.it,by kernel_rfl⟩
structure sQ (a0 a1 a2 a3:Int)(Q:Int->Prop):Prop where
 it:JL a0 1 16 (fun r1=>jn (fun v2=>jn (fun v5=>jn (fun v8=>if (v8||(decide ((i64.wrap (a0+(i64.wrap (2*a3))))<a1)))=true then Q 0 else ck (a2≠(0:Int)) (Q (i64.wrap ((i64.wrap ((i64.wrap ((i64.wrap (a0+(i64.wrap (2*a3))))-a1)).tdiv a2))+1)))) (fun J9=>if v5=true then J9 true else JL a3 0 (i64.wrap (a1-1)) (fun r10=>J9 (!r10)))) (fun J6=>if v2=true then J6 true else JL a2 1 4 (fun r7=>J6 (!r7)))) (fun J3=>if (!r1)=true then J3 true else JL a1 1 5 (fun r4=>J3 (!r4))))
def aEu:=aG5.put tt 171 Tryz.func171 [8] [] [] [sI,sI,sI,sI] [] [(false,aD)] (fun x=>sQ x.1 x.2.1 x.2.2.1 x.2.2.2.1) trivial fun _ _ h=>⟨_,h.it,by kernel_rfl⟩
structure I7 (a0 a1 a2 a3 a4:Int)(Q:(aJ1×Bool)->Prop):Prop where
 it:sQ a0 a2 a3 a4 (fun r1=>sQ a1 a2 a3 a4 (fun r2=>Q ((a0,(a1,(a2,(a3,(a4,(r1,r2)))))),(decide (0<r1))&&(decide (0<r2)))))
def aF5:=aEu.put tt 160 Tryz.func160 [10,11] [] [] [sI,sI,sI,sI,sI] [] [(true,aJT),(false,.bool)] (fun x=>I7 x.1 x.2.1 x.2.2.1 x.2.2.2.1 x.2.2.2.2.1) trivial fun _ _ h=>⟨_,h.it,by kernel_rfl⟩
structure AK (a0 a1:Int)(a2:List Int)(Q:(pQ×Int)->Prop):Prop where
 it:xN a0 (fun r1=>if (((!r1)||(decide (128<a1)))||(decide (a1<(-128))))=true then Q ((([]:List Int),(0,([]:List Int))),3)else kM a2 (fun r2=>if (!r2)=true then Q ((([]:List Int),(0,([]:List Int))),1)else pN a2 (fun r3=>ck ((0:Int)<=r3/\((4:Nat):Int)*r3<=70368744177664) (Q ((a2,(a1,List.replicate (r3).toNat (0:Int))),0)))))
def aD3:=aF5.put tt 161 Tryz.func161 [6,7] [] [] [sI,sI,sZ aD] [(.p .f .n)] [(true,uF),(false,aD)] (fun x=>AK x.1 x.2.1 x.2.2.1) trivial fun _ _ h=>⟨_,h.it,by kernel_rfl⟩
structure CC (a0:aMW)(Q:(Int×Int)->Prop):Prop where
 it:sQ a0.1 a0.2.2.1 a0.2.2.2.1 a0.2.2.2.2 (fun r1=>sQ a0.2.1 a0.2.2.1 a0.2.2.2.1 a0.2.2.2.2 (fun r2=>Q (r1,r2)))
def T4:=aD3.put tt 187 Tryz.func187 [2,3] [] [] [.agg [lI,lI,lI,lI,lI]] [] [(false,aD),(false,aD)] (fun x=>CC (x.1.1,(x.1.2.1,(x.1.2.2.1,(x.1.2.2.2.1,x.1.2.2.2.2.1))))) trivial fun _ _ h=>⟨_,h.it,by kernel_rfl⟩
structure wU (a0 a1 a2:Int)(Q:Bool->Prop):Prop where
 it:Q ((decide (a1<=a0))&&(decide (a0<=a2)))
def aH9:=T4.put tt 188 Tryz.func188 [6] [] [] [sI,sI,sI] [] [(false,.bool)] (fun x=>wU x.1 x.2.1 x.2.2.1) trivial fun _ _ h=>⟨_,h.it,by kernel_rfl⟩
structure JE (a0 a1:Int)(Q:(Nat×Nat)->Prop):Prop where
 it:wU a0 (-1000) 1000 (fun r1=>jn (fun v2=>if v2=true then Q (0,0)else Q (floatOfInt .f64 a0,floatOfInt .f64 a1)) (fun J3=>if (!r1)=true then J3 true else wU a1 (-1000) 1000 (fun r4=>J3 (!r4))))
def aHP:=aH9.put tt 191 Tryz.func191 [4] [] [] [sI,sI] [] [(false,.cpx)] (fun x=>JE x.1 x.2.1) trivial fun _ _ h=>⟨_,h.it,by kernel_rfl⟩
structure G0 (a0:Nat)(Q:(Int×Bool)->Prop):Prop where
 it:if (!(((FloatKind.f64.format.order a0 13875379345695965184==some Ordering.gt)||(FloatKind.f64.format.order a0 13875379345695965184==some Ordering.eq))&&((FloatKind.f64.format.order a0 4652007308841189376==some Ordering.lt)||(FloatKind.f64.format.order a0 4652007308841189376==some Ordering.eq))))=true then Q (0,false)else got (floatToIntVal .f64 a0 .i64) (fun r1=>Q (r1,FloatKind.f64.format.order (floatOfInt .f64 r1) a0==some Ordering.eq))
def aBq:=aHP.put tt 193 Tryz.func193 [2,3] [] [] [.lf (.flt)] [] [(false,aD),(false,.bool)] (fun x=>G0 x.1) trivial fun _ _ h=>⟨_,h.it,by kernel_rfl⟩
structure aAU (a0:Nat×Nat)(Q:(Int×Int×Bool)->Prop):Prop where
 it:G0 a0.1 (fun r1=>G0 a0.2 (fun r2=>if ((!r1.2)||(!r2.2))=true then Q (0,0,false)else Q (r1.1,r2.1,true)))
def aHW:=aBq.put tt 192 Tryz.func192 [2,3,4] [] [] [.lf (.cpx)] [] [(false,aD),(false,aD),(false,.bool)] (fun x=>aAU x.1) trivial fun _ _ h=>⟨_,h.it,by kernel_rfl⟩
structure oF (x5:Int)(K0:Int->Prop):Prop where
 it:K0 (i64.wrap (x5+1))
def l6 (x0:Nat×Nat)(x1 x4 x6 x7:Int)(K0:(List aZ)->Prop)(s:Int×List aZ)(nx:(Int×List aZ)->Prop):Prop :=
 if (decide (s.1<x4))=true then JE x1 s.1 (fun r18=>got (cSumBits .add .f64 x0.1 x0.2 r18.1 r18.2) (fun r19=>aAU r19 (fun r20=>jn (fun v21=>jn (fun v24=>if v24=true then ck ((s.2.length+[(i64.wrap ((i64.wrap (r20.1*x7))+r20.2.1),(x1,s.1))].length)*24<=140737488355328) (oF s.1 (fun y27=>nx (y27,(s.2++[(i64.wrap ((i64.wrap (r20.1*x7))+r20.2.1),(x1,s.1))]))))else oF s.1 (fun y28=>nx (y28,s.2))) (fun J25=>if v21=true then wU r20.2.1 0 (i64.wrap (x7-1)) (fun r26=>J25 r26)else J25 false)) (fun J22=>if r20.2.2=true then wU r20.1 0 (i64.wrap (x6-1)) (fun r23=>J22 r23)else J22 false))))else K0 s.2
structure s8 (x0:Nat×Nat)(x1 x4 x6 x7:Int)(K0:(List aZ)->Prop)(s:Int×List aZ):Prop where
 it:Go.Mach.Loop (l6 x0 x1 x4 x6 x7 K0) s
def iP (x0:Nat×Nat)(x1 x3 x4 x5:Int)(K0:(List aZ)->Prop)(s:Int×List aZ)(nx:(Int×List aZ)->Prop):Prop :=
 if (decide (s.1<x1))=true then s8 x0 s.1 x5 x3 x4 (fun y18=>nx (i64.wrap (s.1+1),y18)) (0,s.2)else K0 s.2
structure z8 (x0:Nat×Nat)(x1 x3 x4 x5:Int)(K0:(List aZ)->Prop)(s:Int×List aZ):Prop where
 it:Go.Mach.Loop (iP x0 x1 x3 x4 x5 K0) s
structure rN (a0:aMW)(a1 a2:Int)(Q:(List aZ)->Prop):Prop where
 it:JE a0.2.2.2.1 0 (fun r1=>JE a1 a2 (fun r2=>got (cMulBits r1.1 r1.2 r2.1 r2.2) (fun r3=>JE a0.2.2.2.2 a0.2.2.2.2 (fun r4=>got (cSumBits .sub .f64 r3.1 r3.2 r4.1 r4.2) (fun r5=>z8 r5 a0.2.2.1 a0.1 a0.2.1 a0.2.2.1 (fun y19=>Q y19) (0,([]:List aZ)))))))
def N5:Ent:=⟨[3,7,8,28,29],[sPt 0,aCD,.lf (.cpx),sI,sI],[.box [lI,lI,lI,lI,lI] false],fun⟨⟨_,_,a,b,c,_⟩,⟨⟨d,e,f,_,_,_⟩,_⟩⟩ k=>z8 a b d e f (fun y20=>k (.exit 0) ⟨[(7,.own 0)],[.lst true bM y20 false]⟩) (c,([]:List aZ))⟩
def NY:Ent:=⟨[3,7,8,9,28,29,33,34],[sPt 0,sC (.own 1),.lf (.cpx),sI,sI,sI,sI,sI],[.box [lI,lI,lI,lI,lI] false,.lst true bM false],fun⟨⟨_,_,a,b,c,d,e,f,_⟩,⟨⟨g,i,j,l,m,_⟩,n,_⟩⟩ k=>s8 a b e g i (fun y21=>k (.exit 2) ⟨[(3,.ptr 0 0),(7,.own 1),(8,.pl (.complex .f64 a.1 a.2)),(28,vI c),(29,vI d)],[.box [vI g,vI i,vI j,vI l,vI m] false,.lst true bM y21 false]⟩) (f,n)⟩
def NM:Ent:=⟨[3,7,8,9,28,29,33,34],[sPt 0,sC (.own 1),.lf (.cpx),sI,sI,sI,sI,sI],[.box [lI,lI,lI,lI,lI] false,.lst true bM false],fun⟨⟨_,_,a,b,c,d,e,f,_⟩,⟨⟨g,i,j,l,m,_⟩,n,_⟩⟩ k=>oF f (fun y22=>k .normal ⟨[(3,.ptr 0 0),(7,.own 1),(8,.pl (.complex .f64 a.1 a.2)),(9,vI b),(28,vI c),(29,vI d),(33,vI e),(34,vI y22)],[.box [vI g,vI i,vI j,vI l,vI m] false,.lst true bM n false]⟩)⟩
def OX:=aHW.put tt 189 Tryz.func189 [6] [(122,[⟨7,none,false,bM⟩]),(31334,[⟨7,none,false,bM⟩])] [(122,N5),(31334,NY),(501351,NM)] [.agg [lI,lI,lI,lI,lI],sI,sI] [] [(false,(.slc bM))] (fun x=>rN (x.1.1,(x.1.2.1,(x.1.2.2.1,(x.1.2.2.2.1,x.1.2.2.2.2.1)))) x.2.1 x.2.2.1) ⟨fun _ _ hs ⟨⟨_,_,a,b,c,_⟩,⟨⟨d,e,f,g,i,_⟩,_⟩⟩ _ h=>dS hs (fun y=>⟨[(3,.ptr 0 0),(7,.own 1),(8,.pl (.complex .f64 a.1 a.2)),(28,vI b),(29,vI y.1)],[.box [vI d,vI e,vI f,vI g,vI i] false,.lst true bM y.2 false]⟩) (c,([]:List aZ)) h.it,fun _ _ hs ⟨⟨_,_,a,b,c,d,e,f,_⟩,⟨⟨g,i,j,l,m,_⟩,n,_⟩⟩ _ h=>aH hs (fun y=>⟨⟨(),(),a,b,c,d,e,y.1,()⟩,⟨⟨g,i,j,l,m,()⟩,y.2,()⟩⟩) (f,n) h.it,fun _ _ hs ⟨⟨_,_,_,_,_,_,_,_,_⟩,⟨⟨_,_,_,_,_,_⟩,_,_⟩⟩ _ h=>aR hs h.it,trivial⟩ fun _ _ h=>⟨_,h.it,by kernel_rfl⟩
structure uU (a0 a1 a2 a3 a4 a5 a6:Int)(Q:(List aZ)->Prop):Prop where
 it:CC (a0,(a1,(a4,(a5,a6)))) (fun r1=>jn (fun v2=>jn (fun v5=>if v5=true then Q ([]:List aZ)else rN (a0,(a1,(a4,(a5,a6)))) a2 a3 (fun r8=>Q r8)) (fun J6=>if v2=true then J6 true else wU a3 0 (i64.wrap (r1.2-1)) (fun r7=>J6 (!r7)))) (fun J3=>if ((decide (r1.1<1))||(decide (r1.2<1)))=true then J3 true else wU a2 0 (i64.wrap (r1.1-1)) (fun r4=>J3 (!r4))))
def aBd:=OX.put tt 172 Tryz.func172 [14] [] [] [sI,sI,sI,sI,sI,sI,sI] [] [(false,(.slc bM))] (fun x=>uU x.1 x.2.1 x.2.2.1 x.2.2.2.1 x.2.2.2.2.1 x.2.2.2.2.2.1 x.2.2.2.2.2.2.1) trivial fun _ _ h=>⟨_,h.it,by kernel_rfl⟩
structure CJ (a0:aJ1)(a1 a2:Int)(Q:(List aZ)->Prop):Prop where
 it:uU a0.1 a0.2.1 a1 a2 a0.2.2.1 a0.2.2.2.1 a0.2.2.2.2.1 (fun r1=>Q r1)
def TO:=aBd.put tt 162 Tryz.func162 [6] [] [] [.agg [lI,lI,lI,lI,lI,lI,lI],sI,sI] [] [(false,(.slc bM))] (fun x=>CJ (x.1.1,(x.1.2.1,(x.1.2.2.1,(x.1.2.2.2.1,(x.1.2.2.2.2.1,(x.1.2.2.2.2.2.1,x.1.2.2.2.2.2.2.1)))))) x.2.1 x.2.2.1) trivial fun _ _ h=>⟨_,h.it,by kernel_rfl⟩
def tJ (x1 x3 x4 x7 x8 x10 x21:Int)(x25 x28:List Int)(x42:List aZ)(K0:Int->Prop)(s:Int×Int)(nx:(Int×Int)->Prop):Prop :=
 if (decide (s.2<x21))=true then ck (aG s.2 x42.length) (ck (aG (i64.wrap ((i64.wrap ((i64.wrap ((i64.wrap (x7*x1))+x10))*x4))+((x42.getD ((s.2).toNat) (0,(0,0))).1))) x25.length) (ck (aG (i64.wrap ((i64.wrap ((i64.wrap ((i64.wrap ((i64.wrap ((i64.wrap (x8*x1))+x10))*x3))+(((x42.getD ((s.2).toNat) (0,(0,0))).2).1)))*x3))+(((x42.getD ((s.2).toNat) (0,(0,0))).2).2))) x28.length) (nx (i64.wrap (s.1+(i64.wrap ((i64.wrap (x25.getD ((i64.wrap ((i64.wrap ((i64.wrap ((i64.wrap (x7*x1))+x10))*x4))+((x42.getD ((s.2).toNat) (0,(0,0))).1))).toNat) 0))*(i64.wrap (x28.getD ((i64.wrap ((i64.wrap ((i64.wrap ((i64.wrap ((i64.wrap ((i64.wrap (x8*x1))+x10))*x3))+(((x42.getD ((s.2).toNat) (0,(0,0))).2).1)))*x3))+(((x42.getD ((s.2).toNat) (0,(0,0))).2).2))).toNat) 0))))),i64.wrap (s.2+1)))))else K0 s.1
structure CV (x1 x3 x4 x7 x8 x10 x21:Int)(x25 x28:List Int)(x42:List aZ)(K0:Int->Prop)(s:Int×Int):Prop where
 it:Go.Mach.Loop (tJ x1 x3 x4 x7 x8 x10 x21 x25 x28 x42 K0) s
def tE (x1 x3 x4 x7 x8 x18:Int)(x22 x25:List Int)(x39:List aZ)(K0:Int->Prop)(s:Int×Int)(nx:(Int×Int)->Prop):Prop :=
 if (decide (s.2<x18))=true then CV x1 x3 x4 x7 x8 s.2 (x39.length:Int) x22 x25 x39 (fun y13=>nx (y13,i64.wrap (s.2+1))) (s.1,0)else K0 s.1
structure CL (x1 x3 x4 x7 x8 x18:Int)(x22 x25:List Int)(x39:List aZ)(K0:Int->Prop)(s:Int×Int):Prop where
 it:Go.Mach.Loop (tE x1 x3 x4 x7 x8 x18 x22 x25 x39 K0) s
def tC (x1 x2 x3 x4 x5 x6 x7 x14:Int)(x18 x21:List Int)(x23:Int)(x24:List Int)(x31 x32 x34:Int)(x35:List aZ)(K0:(List Int)->Prop)(s:Int×List Int)(nx:(Int×List Int)->Prop):Prop :=
 if (decide (s.1<x14))=true then ck (aG s.1 x24.length) (yL (i64.wrap (x24.getD ((s.1).toNat) 0)) x23 x34 (fun r12=>CL x1 x3 x4 x7 s.1 x1 x18 x21 x35 (fun y13=>ck (aG (i64.wrap ((i64.wrap ((i64.wrap ((i64.wrap ((i64.wrap ((i64.wrap (x7*x2))+s.1))*x31))+x5))*x32))+x6)) s.2.length) (nx (i64.wrap (s.1+1),s.2.set ((i64.wrap ((i64.wrap ((i64.wrap ((i64.wrap ((i64.wrap ((i64.wrap (x7*x2))+s.1))*x31))+x5))*x32))+x6)).toNat) (i32.wrap y13)))) (r12,0)))else K0 s.2
structure CG (x1 x2 x3 x4 x5 x6 x7 x14:Int)(x18 x21:List Int)(x23:Int)(x24:List Int)(x31 x32 x34:Int)(x35:List aZ)(K0:(List Int)->Prop)(s:Int×List Int):Prop where
 it:Go.Mach.Loop (tC x1 x2 x3 x4 x5 x6 x7 x14 x18 x21 x23 x24 x31 x32 x34 x35 K0) s
def tA (x1 x2 x3 x4 x5 x6 x11:Int)(x15 x18:List Int)(x20:Int)(x21:List Int)(x28 x29 x31:Int)(x32:List aZ)(K0:(List Int)->Prop)(s:Int×List Int)(nx:(Int×List Int)->Prop):Prop :=
 if (decide (s.1<x11))=true then CG x1 x2 x3 x4 x5 x6 s.1 x2 x15 x18 x20 x21 x28 x29 x31 x32 (fun y12=>nx (i64.wrap (s.1+1),y12)) (0,s.2)else K0 s.2
structure CI (x1 x2 x3 x4 x5 x6 x11:Int)(x15 x18:List Int)(x20:Int)(x21:List Int)(x28 x29 x31:Int)(x32:List aZ)(K0:(List Int)->Prop)(s:Int×List Int):Prop where
 it:Go.Mach.Loop (tA x1 x2 x3 x4 x5 x6 x11 x15 x18 x20 x21 x28 x29 x31 x32 K0) s
def tK (x0 x1 x2 x3 x4 x5 x8:Int)(x12 x15:List Int)(x17:Int)(x18:List Int)(x20 x21 x22 x23 x24 x25 x26 x28:Int)(K0:(List Int)->Prop)(s:Int×List Int)(nx:(Int×List Int)->Prop):Prop :=
 if (decide (s.1<x8))=true then CJ (x20,(x21,(x22,(x23,(x24,(x25,x26)))))) x5 s.1 (fun r11=>CI x1 x2 x3 x4 x5 s.1 x0 x12 x15 x17 x18 x25 x26 x28 r11 (fun y12=>nx (i64.wrap (s.1+1),y12)) (0,s.2))else K0 s.2
structure CY (x0 x1 x2 x3 x4 x5 x8:Int)(x12 x15:List Int)(x17:Int)(x18:List Int)(x20 x21 x22 x23 x24 x25 x26 x28:Int)(K0:(List Int)->Prop)(s:Int×List Int):Prop where
 it:Go.Mach.Loop (tK x0 x1 x2 x3 x4 x5 x8 x12 x15 x17 x18 x20 x21 x22 x23 x24 x25 x26 x28 K0) s
def tS (x0 x1 x2 x3 x4 x5:Int)(x9 x12:List Int)(x14:Int)(x15:List Int)(x17 x18 x19 x20 x21 x22 x23 x25:Int)(K0:(List Int)->Prop)(s:Int×List Int)(nx:(Int×List Int)->Prop):Prop :=
 if (decide (s.1<x5))=true then CY x0 x1 x2 x3 x4 s.1 x23 x9 x12 x14 x15 x17 x18 x19 x20 x21 x22 x23 x25 (fun y11=>nx (i64.wrap (s.1+1),y11)) (0,s.2)else K0 s.2
structure CE (x0 x1 x2 x3 x4 x5:Int)(x9 x12:List Int)(x14:Int)(x15:List Int)(x17 x18 x19 x20 x21 x22 x23 x25:Int)(K0:(List Int)->Prop)(s:Int×List Int):Prop where
 it:Go.Mach.Loop (tS x0 x1 x2 x3 x4 x5 x9 x12 x14 x15 x17 x18 x19 x20 x21 x22 x23 x25 K0) s
structure M4 (x0 x1 x2 x3 x5:Int)(x6:List Int)(x8:Int)(x9:List Int)(x11:Int)(x12:List Int)(x14 x15 x16 x17 x18 x19 x20:Int)(K0:(Int×(List Int)×Int×List Int)->Prop):Prop where
 it:AK (i64.wrap ((i64.wrap (x1*x3))*x3)) (i64.wrap (x5+x8)) [x0,x2,x19,x20] (fun r10=>if (r10.2 != 0)=true then K0 (r10.2,r10.1.1,r10.1.2.1,r10.1.2.2)else CE x0 x1 x2 x3 (i64.wrap (x14*x15)) x19 x6 x9 x11 x12 x14 x15 x16 x17 x18 x19 x20 r10.1.2.1 (fun y11=>K0 (0,r10.1.1,r10.1.2.1,y11)) (0,r10.1.2.2))
structure KV (a0 a1 a2:bL)(a3 a4:Int)(Q:(pQ×Int)->Prop):Prop where
 it:cS a2 (fun r1=>if (!r1)=true then Q ((([]:List Int),(0,([]:List Int))),1)else J0 [a0,a1] (fun r2=>if (r2 != 0)=true then Q ((([]:List Int),(0,([]:List Int))),r2)else ck (aG 0 a0.1.length) (ck (aG 1 a0.1.length) (ck (aG 0 a1.1.length) (ck (aG 2 a1.1.length) (ck (aG 2 a0.1.length) (ck (aG 3 a0.1.length) (I7 (a0.1.getD 2 0) (a0.1.getD 3 0) (a1.1.getD 2 0) a3 a4 (fun r3=>jn (fun v4=>jn (fun v6=>jn (fun v8=>if v8=true then Q ((([]:List Int),(0,([]:List Int))),2)else M4 (a0.1.getD 0 0) (a0.1.getD 1 0) (a1.1.getD 0 0) (a1.1.getD 2 0) a0.2.1 a0.2.2 a1.2.1 a1.2.2 a2.2.1 a2.2.2 r3.1.1 r3.1.2.1 r3.1.2.2.1 r3.1.2.2.2.1 r3.1.2.2.2.2.1 r3.1.2.2.2.2.2.1 r3.1.2.2.2.2.2.2 (fun y12=>Q (y12.2,y12.1))) (fun J9=>if (v6||((a2.1.length:Int) != 1))=true then J9 true else ck (aG 0 a2.1.length) (J9 ((a2.1.getD 0 0) != (a1.1.getD 0 0))))) (fun J7=>if v4=true then J7 true else ck (aG 3 a1.1.length) (J7 ((a1.1.getD 3 0) != (a1.1.getD 2 0))))) (fun J5=>if (!r3.2)=true then J5 true else ck (aG 1 a1.1.length) (J5 ((a1.1.getD 1 0) != (a0.1.getD 1 0)))))))))))))
def YA:Ent:=⟨[5,6,7,10,13,14,15,16,17],[sPt 0,sPt 1,sPt 2,sPt 3,sI,sI,sI,sI,sPt 4],[bV,bV,bV,dJ,.box [lI,lI,lI,lI,lI,lI,lI] false],fun⟨⟨_,_,_,_,a,b,c,d,_⟩,⟨⟨_,f,g,_⟩,⟨_,j,l,_⟩,⟨_,n,o,_⟩,_,⟨q,t,u,w,z,a0,a1,_⟩,_⟩⟩ k=>M4 a b c d f g j l n o q t u w z a0 a1 (fun y13=>k .ret ⟨[(10,.ptr 0 0),(11,vI y13.1)],[.box [vZ aD y13.2.1,vI y13.2.2.1,.own 1] false,.lst true aX y13.2.2.2 false]⟩)⟩
def YY:Ent:=⟨[5,6,7,10,13,14,15,16,17,19,21,138,139],[sPt 0,sPt 1,sPt 2,sPt 3,sI,sI,sI,sI,sPt 4,sPt 5,sI,sI,sI],[bV,bV,bV,dJ,.box [lI,lI,lI,lI,lI,lI,lI] false,.box [lZ aD,lI,.cst (.own 6)] false,oQc],fun⟨⟨_,_,_,_,a,b,c,d,_,_,e,f,g,_⟩,⟨⟨_,_,l,_⟩,⟨_,_,o,_⟩,⟨_,q,t,_⟩,⟨_,u,_⟩,⟨w,z,a0,a1,a2,a3,a4,_⟩,⟨a5,a6,_⟩,a7,_⟩⟩ k=>CE a b c d e f l o q t w z a0 a1 a2 a3 a4 a6 (fun y14=>k (.exit 0) ⟨[(10,.ptr 0 0),(19,.ptr 1 0)],[.box [aL,vI u,aL] false,.box [vZ aD a5,vI a6,.own 2] false,.lst true aX y14 false]⟩) (g,a7)⟩
def X8:Ent:=⟨[5,6,7,10,13,14,15,16,17,19,21,22,138,139,143,144],[sPt 0,sPt 1,sPt 2,sPt 3,sI,sI,sI,sI,sPt 4,sPt 5,sI,sI,sI,sI,sI,sI],[bV,bV,bV,dJ,.box [lI,lI,lI,lI,lI,lI,lI] false,.box [lZ aD,lI,.cst (.own 6)] false,oQc],fun⟨⟨_,_,_,_,a,b,c,d,_,_,e,f,g,i,j,l,_⟩,⟨⟨m,n,o,_⟩,⟨p,q,t,_⟩,⟨u,w,z,_⟩,⟨_,a0,_⟩,⟨a1,a2,a3,a4,a5,a6,a7,_⟩,⟨a8,a9,_⟩,b0,_⟩⟩ k=>CY a b c d e f j o t w z a1 a2 a3 a4 a5 a6 a7 a9 (fun y15=>k (.exit 2) ⟨[(5,.ptr 0 0),(6,.ptr 1 0),(7,.ptr 2 0),(10,.ptr 3 0),(13,vI a),(14,vI b),(15,vI c),(16,vI d),(17,.ptr 4 0),(19,.ptr 5 0),(21,vI e),(138,vI g),(139,vI i)],[.box [vZ aD m,vI n,vZ aI o] false,.box [vZ aD p,vI q,vZ aI t] false,.box [vZ aD u,vI w,vZ aI z] false,.box [aL,vI a0,aL] false,.box [vI a1,vI a2,vI a3,vI a4,vI a5,vI a6,vI a7] false,.box [vZ aD a8,vI a9,.own 6] false,.lst true aX y15 false]⟩) (l,b0)⟩
def YE:Ent:=⟨[5,6,7,10,13,14,15,16,17,19,21,22,23,24,138,139,143,144,151,152],[sPt 0,sPt 1,sPt 2,sPt 3,sI,sI,sI,sI,sPt 4,sPt 5,sI,sI,sI,sC (.own 6),sI,sI,sI,sI,sI,sI],[bV,bV,bV,dJ,.box [lI,lI,lI,lI,lI,lI,lI] false,.box [lZ aD,lI,.cst (.own 7)] false,.lst true bM false,oQc],fun⟨⟨_,_,_,_,a,b,c,d,_,_,e,f,g,_,i,j,l,m,n,o,_⟩,⟨⟨p,q,t,_⟩,⟨u,w,z,_⟩,⟨a0,a1,a2,_⟩,⟨_,a3,_⟩,⟨a4,a5,a6,a7,a8,a9,b0,_⟩,⟨b1,b2,_⟩,b3,b4,_⟩⟩ k=>CI b c d e f g n t z a1 a2 a9 b0 b2 b3 (fun y16=>k (.exit 4) ⟨[(5,.ptr 0 0),(6,.ptr 1 0),(7,.ptr 2 0),(10,.ptr 3 0),(13,vI a),(14,vI b),(15,vI c),(16,vI d),(17,.ptr 4 0),(19,.ptr 5 0),(21,vI e),(22,vI f),(138,vI i),(139,vI j),(143,vI l),(144,vI m)],[.box [vZ aD p,vI q,vZ aI t] false,.box [vZ aD u,vI w,vZ aI z] false,.box [vZ aD a0,vI a1,vZ aI a2] false,.box [aL,vI a3,aL] false,.box [vI a4,vI a5,vI a6,vI a7,vI a8,vI a9,vI b0] false,.box [vZ aD b1,vI b2,.own 6] false,.lst true aX y16 false]⟩) (o,b4)⟩
def YR:Ent:=⟨[5,6,7,10,13,14,15,16,17,19,21,22,23,24,25,138,139,143,144,151,152,155,156],[sPt 0,sPt 1,sPt 2,sPt 3,sI,sI,sI,sI,sPt 4,sPt 5,sI,sI,sI,sC (.own 6),sI,sI,sI,sI,sI,sI,sI,sI,sI],[bV,bV,bV,dJ,.box [lI,lI,lI,lI,lI,lI,lI] false,.box [lZ aD,lI,.cst (.own 7)] false,.lst true bM false,oQc],fun⟨⟨_,_,_,_,a,b,c,d,_,_,e,f,g,_,i,j,l,m,n,o,p,q,t,_⟩,⟨⟨u,w,z,_⟩,⟨a0,a1,a2,_⟩,⟨a3,a4,a5,_⟩,⟨_,a6,_⟩,⟨a7,a8,a9,b0,b1,b2,b3,_⟩,⟨b4,b5,_⟩,b6,b7,_⟩⟩ k=>CG b c d e f g i q z a2 a4 a5 b2 b3 b5 b6 (fun y17=>k (.exit 6) ⟨[(5,.ptr 0 0),(6,.ptr 1 0),(7,.ptr 2 0),(10,.ptr 3 0),(13,vI a),(14,vI b),(15,vI c),(16,vI d),(17,.ptr 4 0),(19,.ptr 5 0),(21,vI e),(22,vI f),(23,vI g),(24,.own 6),(138,vI j),(139,vI l),(143,vI m),(144,vI n),(151,vI o),(152,vI p)],[.box [vZ aD u,vI w,vZ aI z] false,.box [vZ aD a0,vI a1,vZ aI a2] false,.box [vZ aD a3,vI a4,vZ aI a5] false,.box [aL,vI a6,aL] false,.box [vI a7,vI a8,vI a9,vI b0,vI b1,vI b2,vI b3] false,.box [vZ aD b4,vI b5,.own 7] false,.lst true bM b6 false,.lst true aX y17 false]⟩) (t,b7)⟩
def YX:Ent:=⟨[5,6,7,10,13,14,15,16,17,19,21,22,23,24,25,26,27,138,139,143,144,151,152,155,156,170,171],[sPt 0,sPt 1,sPt 2,sPt 3,sI,sI,sI,sI,sPt 4,sPt 5,sI,sI,sI,sC (.own 6),sI,sI,sI,sI,sI,sI,sI,sI,sI,sI,sI,sI,sI],[bV,bV,bV,dJ,.box [lI,lI,lI,lI,lI,lI,lI] false,.box [lZ aD,lI,.cst (.own 7)] false,.lst true bM false,oQc],fun⟨⟨_,_,_,_,a,b,c,d,_,_,e,f,g,_,i,j,l,m,n,o,p,q,t,u,w,z,a0,_⟩,⟨⟨a1,a2,a3,_⟩,⟨a4,a5,a6,_⟩,⟨a7,a8,a9,_⟩,⟨_,b0,_⟩,⟨b1,b2,b3,b4,b5,b6,b7,_⟩,⟨b8,b9,_⟩,c0,c1,_⟩⟩ k=>CL b d e i j z a3 a6 c0 (fun y18=>k (.exit 8) ⟨[(5,.ptr 0 0),(6,.ptr 1 0),(7,.ptr 2 0),(10,.ptr 3 0),(13,vI a),(14,vI b),(15,vI c),(16,vI d),(17,.ptr 4 0),(19,.ptr 5 0),(21,vI e),(22,vI f),(23,vI g),(24,.own 6),(25,vI i),(26,vI j),(27,vI y18),(138,vI m),(139,vI n),(143,vI o),(144,vI p),(151,vI q),(152,vI t),(155,vI u),(156,vI w)],[.box [vZ aD a1,vI a2,vZ aI a3] false,.box [vZ aD a4,vI a5,vZ aI a6] false,.box [vZ aD a7,vI a8,vZ aI a9] false,.box [aL,vI b0,aL] false,.box [vI b1,vI b2,vI b3,vI b4,vI b5,vI b6,vI b7] false,.box [vZ aD b8,vI b9,.own 7] false,.lst true bM c0 false,.lst true aX c1 false]⟩) (l,a0)⟩
def YB:Ent:=⟨[5,6,7,10,13,14,15,16,17,19,21,22,23,24,25,26,27,28,138,139,143,144,151,152,155,156,170,171,174,175,176],[sPt 0,sPt 1,sPt 2,sPt 3,sI,sI,sI,sI,sPt 4,sPt 5,sI,sI,sI,sC (.own 6),sI,sI,sI,sI,sI,sI,sI,sI,sI,sI,sI,sI,sI,sI,sC (.own 6),sI,sI],[bV,bV,bV,dJ,.box [lI,lI,lI,lI,lI,lI,lI] false,.box [lZ aD,lI,.cst (.own 7)] false,.lst true bM false,oQc],fun⟨⟨_,_,_,_,a,b,c,d,_,_,e,f,g,_,i,j,l,m,n,o,p,q,t,u,w,z,a0,a1,_,a2,a3,_⟩,⟨⟨a4,a5,a6,_⟩,⟨a7,a8,a9,_⟩,⟨b0,b1,b2,_⟩,⟨_,b3,_⟩,⟨b4,b5,b6,b7,b8,b9,c0,_⟩,⟨c1,c2,_⟩,c3,c4,_⟩⟩ k=>CV b d e i j m a2 a6 a9 c3 (fun y19=>k (.exit 10) ⟨[(5,.ptr 0 0),(6,.ptr 1 0),(7,.ptr 2 0),(10,.ptr 3 0),(13,vI a),(14,vI b),(15,vI c),(16,vI d),(17,.ptr 4 0),(19,.ptr 5 0),(21,vI e),(22,vI f),(23,vI g),(24,.own 6),(25,vI i),(26,vI j),(27,vI y19),(138,vI n),(139,vI o),(143,vI p),(144,vI q),(151,vI t),(152,vI u),(155,vI w),(156,vI z),(170,vI a0),(171,vI a1)],[.box [vZ aD a4,vI a5,vZ aI a6] false,.box [vZ aD a7,vI a8,vZ aI a9] false,.box [vZ aD b0,vI b1,vZ aI b2] false,.box [aL,vI b3,aL] false,.box [vI b4,vI b5,vI b6,vI b7,vI b8,vI b9,vI c0] false,.box [vZ aD c1,vI c2,.own 7] false,.lst true bM c3 false,.lst true aX c4 false]⟩) (l,a3)⟩
def aB1:=TO.put tt 98 Tryz.func98 [10,11] [] [(127,YA),(8186,YY),(2095718,X8),(1073007822,YE),(274690002534,YR),(281282562595226,YX),(72008336024377958,YB)] [.agg cO,.agg cO,.agg cO,sI,sI] [(.p .f .n)] [(true,uF),(false,aD)] (fun x=>KV (x.1.1,(x.1.2.1,x.1.2.2.1)) (x.2.1.1,(x.2.1.2.1,x.2.1.2.2.1)) (x.2.2.1.1,(x.2.2.1.2.1,x.2.2.1.2.2.1)) x.2.2.2.1 x.2.2.2.2.1) ⟨fun _ _ hs ⟨⟨_,_,_,_,_,_,_,_,_⟩,⟨⟨_,_,_,_⟩,⟨_,_,_,_⟩,⟨_,_,_,_⟩,_,⟨_,_,_,_,_,_,_,_⟩,_⟩⟩ _ h=>aR hs h.it,fun _ _ hs ⟨⟨_,_,_,_,a,b,c,d,_,_,e,f,g,_⟩,⟨⟨i,j,l,_⟩,⟨m,n,o,_⟩,⟨p,q,t,_⟩,⟨_,u,_⟩,⟨w,z,a0,a1,a2,a3,a4,_⟩,⟨a5,a6,_⟩,a7,_⟩⟩ _ h=>aH hs (fun y=>⟨⟨(),(),(),(),a,b,c,d,(),(),e,f,y.1,()⟩,⟨⟨i,j,l,()⟩,⟨m,n,o,()⟩,⟨p,q,t,()⟩,⟨(),u,(),()⟩,⟨w,z,a0,a1,a2,a3,a4,()⟩,⟨a5,a6,(),()⟩,y.2,()⟩⟩) (g,a7) h.it,fun _ _ hs ⟨⟨_,_,_,_,a,b,c,d,_,_,e,f,g,i,j,l,_⟩,⟨⟨m,n,o,_⟩,⟨p,q,t,_⟩,⟨u,w,z,_⟩,⟨_,a0,_⟩,⟨a1,a2,a3,a4,a5,a6,a7,_⟩,⟨a8,a9,_⟩,b0,_⟩⟩ _ h=>aH hs (fun y=>⟨⟨(),(),(),(),a,b,c,d,(),(),e,f,g,i,j,y.1,()⟩,⟨⟨m,n,o,()⟩,⟨p,q,t,()⟩,⟨u,w,z,()⟩,⟨(),a0,(),()⟩,⟨a1,a2,a3,a4,a5,a6,a7,()⟩,⟨a8,a9,(),()⟩,y.2,()⟩⟩) (l,b0) h.it,fun _ _ hs ⟨⟨_,_,_,_,a,b,c,d,_,_,e,f,g,_,i,j,l,m,n,o,_⟩,⟨⟨p,q,t,_⟩,⟨u,w,z,_⟩,⟨a0,a1,a2,_⟩,⟨_,a3,_⟩,⟨a4,a5,a6,a7,a8,a9,b0,_⟩,⟨b1,b2,_⟩,b3,b4,_⟩⟩ _ h=>aH hs (fun y=>⟨⟨(),(),(),(),a,b,c,d,(),(),e,f,g,(),i,j,l,m,n,y.1,()⟩,⟨⟨p,q,t,()⟩,⟨u,w,z,()⟩,⟨a0,a1,a2,()⟩,⟨(),a3,(),()⟩,⟨a4,a5,a6,a7,a8,a9,b0,()⟩,⟨b1,b2,(),()⟩,b3,y.2,()⟩⟩) (o,b4) h.it,fun _ _ hs ⟨⟨_,_,_,_,a,b,c,d,_,_,e,f,g,_,i,j,l,m,n,o,p,q,t,_⟩,⟨⟨u,w,z,_⟩,⟨a0,a1,a2,_⟩,⟨a3,a4,a5,_⟩,⟨_,a6,_⟩,⟨a7,a8,a9,b0,b1,b2,b3,_⟩,⟨b4,b5,_⟩,b6,b7,_⟩⟩ _ h=>aH hs (fun y=>⟨⟨(),(),(),(),a,b,c,d,(),(),e,f,g,(),i,j,l,m,n,o,p,q,y.1,()⟩,⟨⟨u,w,z,()⟩,⟨a0,a1,a2,()⟩,⟨a3,a4,a5,()⟩,⟨(),a6,(),()⟩,⟨a7,a8,a9,b0,b1,b2,b3,()⟩,⟨b4,b5,(),()⟩,b6,y.2,()⟩⟩) (t,b7) h.it,fun _ _ hs ⟨⟨_,_,_,_,a,b,c,d,_,_,e,f,g,_,i,j,l,m,n,o,p,q,t,u,w,z,a0,_⟩,⟨⟨a1,a2,a3,_⟩,⟨a4,a5,a6,_⟩,⟨a7,a8,a9,_⟩,⟨_,b0,_⟩,⟨b1,b2,b3,b4,b5,b6,b7,_⟩,⟨b8,b9,_⟩,c0,c1,_⟩⟩ _ h=>aH hs (fun y=>⟨⟨(),(),(),(),a,b,c,d,(),(),e,f,g,(),i,j,y.1,m,n,o,p,q,t,u,w,z,y.2,()⟩,⟨⟨a1,a2,a3,()⟩,⟨a4,a5,a6,()⟩,⟨a7,a8,a9,()⟩,⟨(),b0,(),()⟩,⟨b1,b2,b3,b4,b5,b6,b7,()⟩,⟨b8,b9,(),()⟩,c0,c1,()⟩⟩) (l,a0) h.it,fun _ _ hs ⟨⟨_,_,_,_,a,b,c,d,_,_,e,f,g,_,i,j,l,m,n,o,p,q,t,u,w,z,a0,a1,_,a2,a3,_⟩,⟨⟨a4,a5,a6,_⟩,⟨a7,a8,a9,_⟩,⟨b0,b1,b2,_⟩,⟨_,b3,_⟩,⟨b4,b5,b6,b7,b8,b9,c0,_⟩,⟨c1,c2,_⟩,c3,c4,_⟩⟩ _ h=>aH hs (fun y=>⟨⟨(),(),(),(),a,b,c,d,(),(),e,f,g,(),i,j,y.1,m,n,o,p,q,t,u,w,z,a0,a1,(),a2,y.2,()⟩,⟨⟨a4,a5,a6,()⟩,⟨a7,a8,a9,()⟩,⟨b0,b1,b2,()⟩,⟨(),b3,(),()⟩,⟨b4,b5,b6,b7,b8,b9,c0,()⟩,⟨c1,c2,(),()⟩,c3,c4,()⟩⟩) (l,a3) h.it,trivial⟩ fun _ _ h=>⟨_,h.it,by kernel_rfl⟩
structure IU (a0:List Int)(a1 a2:Int)(Q:(aMc×Bool)->Prop):Prop where
 it:if ((a0.length:Int) != 4)=true then Q ((0,(0,(0,(0,(0,0))))),false)else ck (aG 2 a0.length) (ck (aG 3 a0.length) (sQ (a0.getD 2 0) a1 a2 0 (fun r1=>sQ (a0.getD 3 0) a1 a2 0 (fun r2=>Q ((a0.getD 2 0,(a0.getD 3 0,(a1,(a2,(r1,r2))))),(decide (0<r1))&&(decide (0<r2)))))))
def t5:=aB1.put tt 106 Tryz.func106 [6,7] [] [] [sZ aD,sI,sI] [] [(true,aF1),(false,.bool)] (fun x=>IU x.1 x.2.1 x.2.2.1) trivial fun _ _ h=>⟨_,h.it,by kernel_rfl⟩
structure eK (x2:Int)(K0:Int->Prop):Prop where
 it:K0 (i64.wrap (x2+1))
def cW (x1:Int)(x10 x12:List Int)(K0:Int->Prop)(s:Int×Int)(nx:(Int×Int)->Prop):Prop :=
 if (decide (s.2<x1))=true then ck (aG s.2 x12.length) (ck (aG (x12.getD ((s.2).toNat) 0) x10.length) (ck (aG s.1 x10.length) (if (decide ((x10.getD ((s.1).toNat) 0)<(x10.getD ((x12.getD ((s.2).toNat) 0).toNat) 0)))=true then eK s.2 (fun yii1=>nx ((x12.getD ((s.2).toNat) 0),yii1))else eK s.2 (fun yii2=>nx (s.1,yii2)))))else K0 s.1
structure eL (x1:Int)(x10 x12:List Int)(K0:Int->Prop)(s:Int×Int):Prop where
 it:Go.Mach.Loop (cW x1 x10 x12 K0) s
def rF:Ent:=⟨[2,3,4,7,13,14,15,48,49,52,57,58,65,66,125,130,131],[sPt 0,sPt 1,sPt 2,sI,sC (.own 3),sI,sI,.fn 108 [.lf (.cst (.ptr 0 0)),.lf (.cst (.ptr 1 0)),.lf (.cst (.ptr 2 0))],sPt 4,sI,sI,sI,sI,sI,sPt 5,sPt 1,sPt 2],[bV,.box [.cst (.own 6),lI,.cst (.own 7)] false,.box [.cst (.own 8)] false,oQa,.box [lI,lI,lI,lI,lI,lI] false,dJ,oQa,.lst true aI false,oQa],fun⟨⟨_,_,_,a,_,b,c,_,_,d,e,f,g,i,_⟩,⟨⟨j,l,m,_⟩,⟨_,n,_⟩,_,o,⟨p,q,t,u,w,z,_⟩,⟨_,a0,_⟩,a1,a2,a3,_⟩⟩ k=>eL b m o (fun yii5=>k (.exit 0) ⟨[(2,.ptr 0 0),(3,.ptr 1 0),(4,.ptr 2 0),(7,vI yii5),(48,.fn 108 [.ptr 0 0,.ptr 1 0,.ptr 2 0]),(49,.ptr 3 0),(52,vI d),(57,vI e),(58,vI f),(65,vI g),(66,vI i),(125,.ptr 4 0),(130,.ptr 1 0),(131,.ptr 2 0)],[.box [vZ aD j,vI l,vZ aI m] false,.box [.own 5,vI n,.own 6] false,.box [.own 7] false,.box [vI p,vI q,vI t,vI u,vI w,vI z] false,.box [aL,vI a0,aL] false,.lst true aD a1 false,.lst true aI a2 false,.lst true aD a3 false]⟩) (a,c)⟩
def rT:Ent:=⟨[2,3,4,7,13,14,15,48,49,52,57,58,65,66,125,130,131],[sPt 0,sPt 1,sPt 2,sI,sC (.own 3),sI,sI,.fn 108 [.lf (.cst (.ptr 0 0)),.lf (.cst (.ptr 1 0)),.lf (.cst (.ptr 2 0))],sPt 4,sI,sI,sI,sI,sI,sPt 5,sPt 1,sPt 2],[bV,.box [.cst (.own 6),lI,.cst (.own 7)] false,.box [.cst (.own 8)] false,oQa,.box [lI,lI,lI,lI,lI,lI] false,dJ,oQa,.lst true aI false,oQa],fun⟨⟨_,_,_,a,_,b,c,_,_,d,e,f,g,i,_⟩,⟨⟨j,l,m,_⟩,⟨_,n,_⟩,_,o,⟨p,q,t,u,w,z,_⟩,⟨_,a0,_⟩,a1,a2,a3,_⟩⟩ k=>eK c (fun yii6=>k .normal ⟨[(2,.ptr 0 0),(3,.ptr 1 0),(4,.ptr 2 0),(7,vI a),(13,.own 3),(14,vI b),(15,vI yii6),(48,.fn 108 [.ptr 0 0,.ptr 1 0,.ptr 2 0]),(49,.ptr 4 0),(52,vI d),(57,vI e),(58,vI f),(65,vI g),(66,vI i),(125,.ptr 5 0),(130,.ptr 1 0),(131,.ptr 2 0)],[.box [vZ aD j,vI l,vZ aI m] false,.box [.own 6,vI n,.own 7] false,.box [.own 8] false,.lst true aD o false,.box [vI p,vI q,vI t,vI u,vI w,vI z] false,.box [aL,vI a0,aL] false,.lst true aD a1 false,.lst true aI a2 false,.lst true aD a3 false]⟩)⟩
def eW:Inl:=VM (t5.cfg tt none false 0) 108 Tryz.f108 [(26,rF),(423,rT)] [48,49,52,57,58,65,66,125,130,131] []
theorem qL:dH Tryz.prog eW:=xI (G:=(t5.cfg tt none false 0)) Tryz.func108 t5.ok hI0 ⟨fun _ _ hs ⟨⟨_,_,_,a,_,b,c,_,_,d,e,f,g,i,_⟩,⟨⟨j,l,m,_⟩,⟨_,n,_⟩,_,o,⟨p,q,t,u,w,z,_⟩,⟨_,a0,_⟩,a1,a2,a3,_⟩⟩ _ h=>aH hs (fun y=>⟨⟨(),(),(),y.1,(),b,y.2,⟨(),(),(),()⟩,(),d,e,f,g,i,(),(),(),()⟩,⟨⟨j,l,m,()⟩,⟨(),n,(),()⟩,⟨(),()⟩,o,⟨p,q,t,u,w,z,()⟩,⟨(),a0,(),()⟩,a1,a2,a3,()⟩⟩) (a,c) h.it,fun _ _ hs ⟨⟨_,_,_,_,_,_,_,_,_,_,_,_,_,_,_⟩,⟨⟨_,_,_,_⟩,⟨_,_,_⟩,_,_,⟨_,_,_,_,_,_,_⟩,⟨_,_,_⟩,_,_,_,_⟩⟩ _ h=>aR hs h.it,trivial⟩
def fL (x0 x6 x12 x13:Int)(x19:List aZ)(K0:(List Int)->Prop)(s:Int×List Int)(nx:(Int×List Int)->Prop):Prop :=
 if (decide (s.1<x6))=true then ck (aG s.1 x19.length) (ck ((s.2.length+[i64.wrap ((i64.wrap ((i64.wrap (x0*x12))*x13))+((x19.getD ((s.1).toNat) (0,(0,0))).1))].length)*8<=140737488355328) (nx (i64.wrap (s.1+1),s.2++[i64.wrap ((i64.wrap ((i64.wrap (x0*x12))*x13))+((x19.getD ((s.1).toNat) (0,(0,0))).1))])))else K0 s.2
structure kS (x0 x6 x12 x13:Int)(x19:List aZ)(K0:(List Int)->Prop)(s:Int×List Int):Prop where
 it:Go.Mach.Loop (fL x0 x6 x12 x13 x19 K0) s
def fI (x0 x3:Int)(x7:List Int)(x9 x10 x11 x12 x14:Int)(K0:((List Int)×List Int)->Prop)(s:Int×(List Int)×List Int)(nx:(Int×(List Int)×List Int)->Prop):Prop :=
 if (decide (s.1<x3))=true then ck (x14≠(0:Int)) (ck (x14≠(0:Int)) (uU x9 x10 (i64.wrap ((s.1).tdiv x14)) ((s.1).tmod x14) x11 x12 0 (fun ri6=>kS x0 (ri6.length:Int) x9 x10 ri6 (fun yi7=>ck (aG 0 yi7.length) (eL (yi7.length:Int) x7 yi7 (fun yii4=>ck (aG yii4 x7.length) (ck ((s.2.1.length+[x7.getD ((yii4).toNat) 0].length)*1<=140737488355328) (ck ((s.2.2.length+[yii4].length)*8<=140737488355328) (nx (i64.wrap (s.1+1),s.2.1++[x7.getD ((yii4).toNat) 0],s.2.2++[yii4]))))) (yi7.getD 0 0,0))) (0,([]:List Int)))))else K0 (s.2.1,s.2.2)
structure kL (x0 x3:Int)(x7:List Int)(x9 x10 x11 x12 x14:Int)(K0:((List Int)×List Int)->Prop)(s:Int×(List Int)×List Int):Prop where
 it:Go.Mach.Loop (fI x0 x3 x7 x9 x10 x11 x12 x14 K0) s
def fH (x0:Int)(x4:List Int)(x6 x7 x8 x9 x10 x11:Int)(K0:((List Int)×List Int)->Prop)(s:Int×(List Int)×List Int)(nx:(Int×(List Int)×List Int)->Prop):Prop :=
 if (decide (s.1<x0))=true then kL s.1 (i64.wrap (x10*x11)) x4 x6 x7 x8 x9 x11 (fun yi6=>nx (i64.wrap (s.1+1),yi6.1,yi6.2)) (0,s.2.1,s.2.2)else K0 (s.2.1,s.2.2)
structure kT (x0:Int)(x4:List Int)(x6 x7 x8 x9 x10 x11:Int)(K0:((List Int)×List Int)->Prop)(s:Int×(List Int)×List Int):Prop where
 it:Go.Mach.Loop (fH x0 x4 x6 x7 x8 x9 x10 x11 K0) s
def AG:Ent:=⟨[2,3,11,12,79,84,85],[.fn 108 [.lf (.cst (.ptr 0 0)),.lf (.cst (.ptr 1 0)),.lf (.cst (.ptr 2 0))],sPt 3,sI,sI,sPt 4,sPt 1,sPt 2],[bV,.box [.cst (.own 5),lI,eD] false,.box [eD] false,.box [lI,lI,lI,lI,lI,lI] false,dJ,oQa],fun⟨⟨_,_,a,b,_⟩,⟨⟨_,_,e,_⟩,⟨_,f,_⟩,_,⟨g,i,j,l,m,n,_⟩,⟨_,o,_⟩,p,_⟩⟩ k=>kT a e g i j l m n (fun yi8=>k (.exit 0) ⟨[(79,.ptr 0 0),(84,.ptr 1 0),(85,.ptr 2 0)],[.box [aL,vI o,aL] false,.box [.own 3,vI f,.own 4] false,.box [.own 5] false,.lst true aD p false,.lst true aI yi8.1 false,.lst true aD yi8.2 false]⟩) (b,([]:List Int),([]:List Int))⟩
def AU:Ent:=⟨[2,3,6,11,12,19,20,79,84,85],[.fn 108 [.lf (.cst (.ptr 0 0)),.lf (.cst (.ptr 1 0)),.lf (.cst (.ptr 2 0))],sPt 3,sI,sI,sI,sI,sI,sPt 4,sPt 1,sPt 2],[bV,.box [.cst (.own 5),lI,.cst (.own 6)] false,.box [.cst (.own 7)] false,.box [lI,lI,lI,lI,lI,lI] false,dJ,oQa,.lst true aI false,oQa],fun⟨⟨_,_,a,b,c,d,e,_⟩,⟨⟨f,g,i,_⟩,⟨_,j,_⟩,_,⟨l,m,n,o,p,q,_⟩,⟨_,t,_⟩,u,w,z,_⟩⟩ k=>kL a d i l m n o q (fun yi9=>k (.exit 2) ⟨[(2,.fn 108 [.ptr 0 0,.ptr 1 0,.ptr 2 0]),(3,.ptr 3 0),(11,vI b),(12,vI c),(79,.ptr 4 0),(84,.ptr 1 0),(85,.ptr 2 0)],[.box [vZ aD f,vI g,vZ aI i] false,.box [.own 5,vI j,.own 6] false,.box [.own 7] false,.box [vI l,vI m,vI n,vI o,vI p,vI q] false,.box [aL,vI t,aL] false,.lst true aD u false,.lst true aI yi9.1 false,.lst true aD yi9.2 false]⟩) (e,w,z)⟩
def AM:Ent:=⟨[2,3,6,7,8,11,12,19,20,39,40,41,79,84,85],[.fn 108 [.lf (.cst (.ptr 0 0)),.lf (.cst (.ptr 1 0)),.lf (.cst (.ptr 2 0))],sPt 3,sI,sI,aCD,sI,sI,sI,sI,sC (.own 4),sI,sI,sPt 5,sPt 1,sPt 2],[bV,.box [.cst (.own 6),lI,.cst (.own 7)] false,.box [.cst (.own 8)] false,.box [lI,lI,lI,lI,lI,lI] false,.lst true bM false,dJ,oQa,.lst true aI false,oQa],fun⟨⟨_,_,a,b,_,c,d,e,f,_,g,i,_⟩,⟨⟨j,l,m,_⟩,⟨_,n,_⟩,_,⟨o,p,q,t,u,w,_⟩,z,⟨_,a0,_⟩,a1,a2,a3,_⟩⟩ k=>kS a g o p z (fun yi10=>k (.exit 4) ⟨[(2,.fn 108 [.ptr 0 0,.ptr 1 0,.ptr 2 0]),(3,.ptr 3 0),(6,vI a),(7,vI b),(8,.own 4),(11,vI c),(12,vI d),(19,vI e),(20,vI f),(79,.ptr 5 0),(84,.ptr 1 0),(85,.ptr 2 0)],[.box [vZ aD j,vI l,vZ aI m] false,.box [.own 6,vI n,.own 7] false,.box [.own 8] false,.box [vI o,vI p,vI q,vI t,vI u,vI w] false,.lst true aD yi10 false,.box [aL,vI a0,aL] false,.lst true aD a1 false,.lst true aI a2 false,.lst true aD a3 false]⟩) (i,([]:List Int))⟩
def qV:Inl:=VM (t5.cfg tt (some eW) false 0) 107 Tryz.f107 [(14,AG),(3686,AU),(3774874,AM)] [79,84,85] [(14,[⟨84,some 2,false,aI⟩,⟨85,some 0,false,aD⟩]),(3686,[⟨84,some 2,false,aI⟩,⟨85,some 0,false,aD⟩]),(3774874,[⟨8,none,false,aD⟩])]
theorem zX:dH Tryz.prog qV:=xI (G:=(t5.cfg tt (some eW) false 0)) Tryz.func107 t5.ok (hI1 qL) ⟨fun _ _ hs ⟨⟨_,_,a,b,_⟩,⟨⟨c,d,e,_⟩,⟨_,f,_⟩,_,⟨g,i,j,l,m,n,_⟩,⟨_,o,_⟩,p,_⟩⟩ _ h=>dS hs (fun y=>⟨[(2,.fn 108 [.ptr 0 0,.ptr 1 0,.ptr 2 0]),(3,.ptr 3 0),(11,vI a),(12,vI y.1),(79,.ptr 4 0),(84,.ptr 1 0),(85,.ptr 2 0)],[.box [vZ aD c,vI d,vZ aI e] false,.box [.own 5,vI f,.own 6] false,.box [.own 7] false,.box [vI g,vI i,vI j,vI l,vI m,vI n] false,.box [aL,vI o,aL] false,.lst true aD p false,.lst true aI y.2.1 false,.lst true aD y.2.2 false]⟩) (b,([]:List Int),([]:List Int)) h.it,fun _ _ hs ⟨⟨_,_,a,b,c,d,e,_⟩,⟨⟨f,g,i,_⟩,⟨_,j,_⟩,_,⟨l,m,n,o,p,q,_⟩,⟨_,t,_⟩,u,w,z,_⟩⟩ _ h=>aH hs (fun y=>⟨⟨⟨(),(),(),()⟩,(),a,b,c,d,y.1,(),(),(),()⟩,⟨⟨f,g,i,()⟩,⟨(),j,(),()⟩,⟨(),()⟩,⟨l,m,n,o,p,q,()⟩,⟨(),t,(),()⟩,u,y.2.1,y.2.2,()⟩⟩) (e,w,z) h.it,fun _ _ hs ⟨⟨_,_,a,b,_,c,d,e,f,_,g,i,_⟩,⟨⟨j,l,m,_⟩,⟨_,n,_⟩,_,⟨o,p,q,t,u,w,_⟩,z,⟨_,a0,_⟩,a1,a2,a3,_⟩⟩ _ h=>dS hs (fun y=>⟨[(2,.fn 108 [.ptr 0 0,.ptr 1 0,.ptr 2 0]),(3,.ptr 3 0),(6,vI a),(7,vI b),(8,.own 4),(11,vI c),(12,vI d),(19,vI e),(20,vI f),(39,.own 5),(40,vI g),(41,vI y.1),(79,.ptr 6 0),(84,.ptr 1 0),(85,.ptr 2 0)],[.box [vZ aD j,vI l,vZ aI m] false,.box [.own 7,vI n,.own 8] false,.box [.own 9] false,.box [vI o,vI p,vI q,vI t,vI u,vI w] false,.lst true aD y.2 false,.lst true bM z false,.box [aL,vI a0,aL] false,.lst true aD a1 false,.lst true aI a2 false,.lst true aD a3 false]⟩) (i,([]:List Int)) h.it,trivial⟩
structure aAu (a0:bL)(a1 a2:Int)(Q:(bL×(List Int)×Int)->Prop):Prop where
 it:cS a0 (fun r1=>if (!r1)=true then Q ((([]:List Int),(0,([]:List Int))),([]:List Int),1)else IU a0.1 a1 a2 (fun r2=>if (!r2.2)=true then Q ((([]:List Int),(0,([]:List Int))),([]:List Int),2)else ck (aG 0 a0.1.length) (ck (aG 1 a0.1.length) (ck (aG 0 a0.1.length) (ck (aG 1 a0.1.length) (kT (i64.wrap ((a0.1.getD 0 0)*(a0.1.getD 1 0))) a0.2.2 r2.1.1 r2.1.2.1 r2.1.2.2.1 r2.1.2.2.2.1 r2.1.2.2.2.2.1 r2.1.2.2.2.2.2 (fun yi7=>Q (([a0.1.getD 0 0,a0.1.getD 1 0,r2.1.2.2.2.2.1,r2.1.2.2.2.2.2],(a0.2.1,yi7.1)),yi7.2,0)) (0,([]:List Int),([]:List Int))))))))
def aGg:=t5.putX tt 60 Tryz.func60 [6,7,8] [] [] [.agg cO,sI,sI] [] [(true,aY),(false,(.slc aD)),(false,aD)] (fun x=>aAu (x.1.1,(x.1.2.1,x.1.2.2.1)) x.2.1 x.2.2.1) [] (some qV) false 0 (hI1 zX) trivial fun _ _ h=>⟨_,h.it,by kernel_rfl⟩
structure WN (a0:Int)(Q:Int->Prop):Prop where
 it:ck (2≠(0:Int)) (Q (i64.wrap ((i64.wrap ((a0).tdiv 2))*2)))
def uO:=aGg.put tt 163 Tryz.func163 [2] [] [] [sI] [] [(false,aD)] (fun x=>WN x.1) trivial fun _ _ h=>⟨_,h.it,by kernel_rfl⟩
def cX (x1:Int)(x10 x12:List Int)(K0:Int->Prop)(s:Int×Int)(nx:(Int×Int)->Prop):Prop :=
 if (decide (s.2<x1))=true then ck (aG s.2 x12.length) (ck (aG (x12.getD ((s.2).toNat) 0) x10.length) (nx (i32.wrap (s.1+(i32.wrap (x10.getD ((x12.getD ((s.2).toNat) 0).toNat) 0))),i64.wrap (s.2+1))))else K0 s.1
structure eS (x1:Int)(x10 x12:List Int)(K0:Int->Prop)(s:Int×Int):Prop where
 it:Go.Mach.Loop (cX x1 x10 x12 K0) s
def rX:Ent:=⟨[2,3,6,9,10,11,32,33,36,41,42,49,50,109,113],[sPt 0,sPt 1,.lf (.int .i32),sC (.own 2),sI,sI,.fn 164 [.lf (.cst (.ptr 0 0)),.lf (.cst (.ptr 1 0))],sPt 3,sI,sI,sI,sI,sI,sPt 4,sPt 1],[bV,.box [.cst (.own 5),lI,.cst (.own 6)] false,oQa,.box [lI,lI,lI,lI,lI,lI] false,dJ,oQa,oQc],fun⟨⟨_,_,a,_,b,c,_,_,d,e,f,g,i,_⟩,⟨⟨j,l,m,_⟩,⟨_,n,_⟩,o,⟨p,q,t,u,w,z,_⟩,⟨_,a0,_⟩,a1,a2,_⟩⟩ k=>eS b m o (fun yii3=>k (.exit 0) ⟨[(3,.ptr 0 0),(6,vK .i32 yii3),(32,.fn 164 [.ptr 1 0,.ptr 0 0]),(33,.ptr 2 0),(36,vI d),(41,vI e),(42,vI f),(49,vI g),(50,vI i),(109,.ptr 3 0),(113,.ptr 0 0)],[.box [.own 4,vI n,.own 5] false,.box [vZ aD j,vI l,vZ aI m] false,.box [vI p,vI q,vI t,vI u,vI w,vI z] false,.box [aL,vI a0,aL] false,.lst true aD a1 false,.lst true aX a2 false]⟩) (a,c)⟩
def fA:Inl:=VM (uO.cfg tt none false 0) 164 Tryz.f164 [(26,rX)] [32,33,36,41,42,49,50,109,113] []
theorem qK:dH Tryz.prog fA:=xI (G:=(uO.cfg tt none false 0)) Tryz.func164 uO.ok hI0 ⟨fun _ _ hs ⟨⟨_,_,a,_,b,c,_,_,d,e,f,g,i,_⟩,⟨⟨j,l,m,_⟩,⟨_,n,_⟩,o,⟨p,q,t,u,w,z,_⟩,⟨_,a0,_⟩,a1,a2,_⟩⟩ _ h=>aH hs (fun y=>⟨⟨(),(),y.1,(),b,y.2,⟨(),(),()⟩,(),d,e,f,g,i,(),(),()⟩,⟨⟨j,l,m,()⟩,⟨(),n,(),()⟩,o,⟨p,q,t,u,w,z,()⟩,⟨(),a0,(),()⟩,a1,a2,()⟩⟩) (a,c) h.it,trivial⟩
def fJ (x0 x6 x12 x13:Int)(x19:List aZ)(K0:(List Int)->Prop)(s:Int×List Int)(nx:(Int×List Int)->Prop):Prop :=
 if (decide (s.1<x6))=true then ck (aG s.1 x19.length) (ck ((s.2.length+[i64.wrap ((i64.wrap ((i64.wrap (x0*x12))*x13))+((x19.getD ((s.1).toNat) (0,(0,0))).1))].length)*8<=140737488355328) (nx (i64.wrap (s.1+1),s.2++[i64.wrap ((i64.wrap ((i64.wrap (x0*x12))*x13))+((x19.getD ((s.1).toNat) (0,(0,0))).1))])))else K0 s.2
structure kQ (x0 x6 x12 x13:Int)(x19:List aZ)(K0:(List Int)->Prop)(s:Int×List Int):Prop where
 it:Go.Mach.Loop (fJ x0 x6 x12 x13 x19 K0) s
def fQ (x0 x3:Int)(x7:List Int)(x9 x10 x11 x12 x14:Int)(K0:(List Int)->Prop)(s:Int×List Int)(nx:(Int×List Int)->Prop):Prop :=
 if (decide (s.1<x3))=true then ck (x14≠(0:Int)) (ck (x14≠(0:Int)) (uU x9 x10 (i64.wrap ((s.1).tdiv x14)) ((s.1).tmod x14) x11 x12 0 (fun ri6=>kQ x0 (ri6.length:Int) x9 x10 ri6 (fun yi7=>eS (yi7.length:Int) x7 yi7 (fun yii2=>ck ((s.2.length+[yii2].length)*4<=140737488355328) (nx (i64.wrap (s.1+1),s.2++[yii2]))) (0,0)) (0,([]:List Int)))))else K0 s.2
structure kU (x0 x3:Int)(x7:List Int)(x9 x10 x11 x12 x14:Int)(K0:(List Int)->Prop)(s:Int×List Int):Prop where
 it:Go.Mach.Loop (fQ x0 x3 x7 x9 x10 x11 x12 x14 K0) s
def fG (x0:Int)(x4:List Int)(x6 x7 x8 x9 x10 x11:Int)(K0:(List Int)->Prop)(s:Int×List Int)(nx:(Int×List Int)->Prop):Prop :=
 if (decide (s.1<x0))=true then kU s.1 (i64.wrap (x10*x11)) x4 x6 x7 x8 x9 x11 (fun yi6=>nx (i64.wrap (s.1+1),yi6)) (0,s.2)else K0 s.2
structure kN (x0:Int)(x4:List Int)(x6 x7 x8 x9 x10 x11:Int)(K0:(List Int)->Prop)(s:Int×List Int):Prop where
 it:Go.Mach.Loop (fG x0 x4 x6 x7 x8 x9 x10 x11 K0) s
def AW:Ent:=⟨[2,3,11,12,79,83],[.fn 164 [.lf (.cst (.ptr 0 0)),.lf (.cst (.ptr 1 0))],sPt 2,sI,sI,sPt 3,sPt 1],[bV,.box [.cst (.own 4),lI,eD] false,.box [lI,lI,lI,lI,lI,lI] false,dJ,oQa],fun⟨⟨_,_,a,b,_⟩,⟨⟨_,_,e,_⟩,⟨_,f,_⟩,⟨g,i,j,l,m,n,_⟩,⟨_,o,_⟩,p,_⟩⟩ k=>kN a e g i j l m n (fun yi8=>k (.exit 0) ⟨[(79,.ptr 0 0),(83,.ptr 1 0)],[.box [aL,vI o,aL] false,.box [.own 2,vI f,.own 3] false,.lst true aD p false,.lst true aX yi8 false]⟩) (b,([]:List Int))⟩
def A1:Ent:=⟨[2,3,6,11,12,19,20,79,83],[.fn 164 [.lf (.cst (.ptr 0 0)),.lf (.cst (.ptr 1 0))],sPt 2,sI,sI,sI,sI,sI,sPt 3,sPt 1],[bV,.box [.cst (.own 4),lI,.cst (.own 5)] false,.box [lI,lI,lI,lI,lI,lI] false,dJ,oQa,oQc],fun⟨⟨_,_,a,b,c,d,e,_⟩,⟨⟨f,g,i,_⟩,⟨_,j,_⟩,⟨l,m,n,o,p,q,_⟩,⟨_,t,_⟩,u,w,_⟩⟩ k=>kU a d i l m n o q (fun yi9=>k (.exit 2) ⟨[(2,.fn 164 [.ptr 0 0,.ptr 1 0]),(3,.ptr 2 0),(11,vI b),(12,vI c),(79,.ptr 3 0),(83,.ptr 1 0)],[.box [vZ aD f,vI g,vZ aI i] false,.box [.own 4,vI j,.own 5] false,.box [vI l,vI m,vI n,vI o,vI p,vI q] false,.box [aL,vI t,aL] false,.lst true aD u false,.lst true aX yi9 false]⟩) (e,w)⟩
def AH:Ent:=⟨[2,3,6,7,8,11,12,19,20,39,40,41,79,83],[.fn 164 [.lf (.cst (.ptr 0 0)),.lf (.cst (.ptr 1 0))],sPt 2,sI,sI,aCD,sI,sI,sI,sI,sC (.own 3),sI,sI,sPt 4,sPt 1],[bV,.box [.cst (.own 5),lI,.cst (.own 6)] false,.box [lI,lI,lI,lI,lI,lI] false,.lst true bM false,dJ,oQa,oQc],fun⟨⟨_,_,a,b,_,c,d,e,f,_,g,i,_⟩,⟨⟨j,l,m,_⟩,⟨_,n,_⟩,⟨o,p,q,t,u,w,_⟩,z,⟨_,a0,_⟩,a1,a2,_⟩⟩ k=>kQ a g o p z (fun yi10=>k (.exit 4) ⟨[(2,.fn 164 [.ptr 0 0,.ptr 1 0]),(3,.ptr 2 0),(6,vI a),(7,vI b),(8,.own 3),(11,vI c),(12,vI d),(19,vI e),(20,vI f),(79,.ptr 4 0),(83,.ptr 1 0)],[.box [vZ aD j,vI l,vZ aI m] false,.box [.own 5,vI n,.own 6] false,.box [vI o,vI p,vI q,vI t,vI u,vI w] false,.lst true aD yi10 false,.box [aL,vI a0,aL] false,.lst true aD a1 false,.lst true aX a2 false]⟩) (i,([]:List Int))⟩
def qQ:Inl:=VM (uO.cfg tt (some fA) false 0) 107 Tryz.f107 [(14,AW),(3686,A1),(3774874,AH)] [79,83] [(14,[⟨83,some 2,false,aX⟩]),(3686,[⟨83,some 2,false,aX⟩]),(3774874,[⟨8,none,false,aD⟩])]
theorem zY:dH Tryz.prog qQ:=xI (G:=(uO.cfg tt (some fA) false 0)) Tryz.func107 uO.ok (hI1 qK) ⟨fun _ _ hs ⟨⟨_,_,a,b,_⟩,⟨⟨c,d,e,_⟩,⟨_,f,_⟩,⟨g,i,j,l,m,n,_⟩,⟨_,o,_⟩,p,_⟩⟩ _ h=>dS hs (fun y=>⟨[(2,.fn 164 [.ptr 0 0,.ptr 1 0]),(3,.ptr 2 0),(11,vI a),(12,vI y.1),(79,.ptr 3 0),(83,.ptr 1 0)],[.box [vZ aD c,vI d,vZ aI e] false,.box [.own 4,vI f,.own 5] false,.box [vI g,vI i,vI j,vI l,vI m,vI n] false,.box [aL,vI o,aL] false,.lst true aD p false,.lst true aX y.2 false]⟩) (b,([]:List Int)) h.it,fun _ _ hs ⟨⟨_,_,a,b,c,d,e,_⟩,⟨⟨f,g,i,_⟩,⟨_,j,_⟩,⟨l,m,n,o,p,q,_⟩,⟨_,t,_⟩,u,w,_⟩⟩ _ h=>aH hs (fun y=>⟨⟨⟨(),(),()⟩,(),a,b,c,d,y.1,(),(),()⟩,⟨⟨f,g,i,()⟩,⟨(),j,(),()⟩,⟨l,m,n,o,p,q,()⟩,⟨(),t,(),()⟩,u,y.2,()⟩⟩) (e,w) h.it,fun _ _ hs ⟨⟨_,_,a,b,_,c,d,e,f,_,g,i,_⟩,⟨⟨j,l,m,_⟩,⟨_,n,_⟩,⟨o,p,q,t,u,w,_⟩,z,⟨_,a0,_⟩,a1,a2,_⟩⟩ _ h=>dS hs (fun y=>⟨[(2,.fn 164 [.ptr 0 0,.ptr 1 0]),(3,.ptr 2 0),(6,vI a),(7,vI b),(8,.own 3),(11,vI c),(12,vI d),(19,vI e),(20,vI f),(39,.own 4),(40,vI g),(41,vI y.1),(79,.ptr 5 0),(83,.ptr 1 0)],[.box [vZ aD j,vI l,vZ aI m] false,.box [.own 6,vI n,.own 7] false,.box [vI o,vI p,vI q,vI t,vI u,vI w] false,.lst true aD y.2 false,.lst true bM z false,.box [aL,vI a0,aL] false,.lst true aD a1 false,.lst true aX a2 false]⟩) (i,([]:List Int)) h.it,trivial⟩
structure aAz (a0:bL)(a1 a2:Int)(Q:(pQ×Int)->Prop):Prop where
 it:cS a0 (fun r1=>if (!r1)=true then Q ((([]:List Int),(0,([]:List Int))),1)else IU a0.1 a1 a2 (fun r2=>if (!r2.2)=true then Q ((([]:List Int),(0,([]:List Int))),2)else ck (aG 0 a0.1.length) (ck (aG 1 a0.1.length) (WN a1 (fun r3=>ck (aG 0 a0.1.length) (ck (aG 1 a0.1.length) (kN (i64.wrap ((a0.1.getD 0 0)*(a0.1.getD 1 0))) a0.2.2 r2.1.1 r2.1.2.1 r2.1.2.2.1 r2.1.2.2.2.1 r2.1.2.2.2.2.1 r2.1.2.2.2.2.2 (fun yi7=>Q (([a0.1.getD 0 0,a0.1.getD 1 0,r2.1.2.2.2.2.1,r2.1.2.2.2.2.2],((i64.wrap (a0.2.1-r3)),yi7)),0)) (0,([]:List Int)))))))))
def aGx:=uO.putX tt 99 Tryz.func99 [6,7] [] [] [.agg cO,sI,sI] [] [(true,uF),(false,aD)] (fun x=>aAz (x.1.1,(x.1.2.1,x.1.2.2.1)) x.2.1 x.2.2.1) [] (some qQ) false 0 (hI1 zY) trivial fun _ _ h=>⟨_,h.it,by kernel_rfl⟩
structure A4 (a0:pQ)(Q:Bool->Prop):Prop where
 it:kM a0.1 (fun r1=>jn (fun v2=>jn (fun v5=>Q v5) (fun J6=>if v2=true then EU a0.2.1 128 (fun r7=>J6 r7)else J6 false)) (fun J3=>if r1=true then pN a0.1 (fun r4=>J3 ((a0.2.2.length:Int)==r4))else J3 false))
def X6:=aGx.put tt 101 Tryz.func101 [2] [] [] [.agg YF] [] [(false,.bool)] (fun x=>A4 (x.1.1,(x.1.2.1,x.1.2.2.1))) trivial fun _ _ h=>⟨_,h.it,by kernel_rfl⟩
def qR:ByteArray:=⟨#[0,1,2,2,3,3,3,3,4,4,4,4,4,4,4,4,5,5,5,5,5,5,5,5,5,5,5,5,5,5,5,5,6,6,6,6,6,6,6,6,6,6,6,6,6,6,6,6,6,6,6,6,6,6,6,6,6,6,6,6,6,6,6,6,7,7,7,7,7,7,7,7,7,7,7,7,7,7,7,7,7,7,7,7,7,7,7,7,7,7,7,7,7,7,7,7,7,7,7,7,7,7,7,7,7,7,7,7,7,7,7,7,7,7,7,7,7,7,7,7,7,7,7,7,7,7,7,7,8,8,8,8,8,8,8,8,8,8,8,8,8,8,8,8,8,8,8,8,8,8,8,8,8,8,8,8,8,8,8,8,8,8,8,8,8,8,8,8,8,8,8,8,8,8,8,8,8,8,8,8,8,8,8,8,8,8,8,8,8,8,8,8,8,8,8,8,8,8,8,8,8,8,8,8,8,8,8,8,8,8,8,8,8,8,8,8,8,8,8,8,8,8,8,8,8,8,8,8,8,8,8,8,8,8,8,8,8,8,8,8,8,8,8,8,8,8,8,8,8,8,8,8,8,8,8,8]⟩
structure rK (x0 x1:Int)(K0:Int->Prop):Prop where
 it:ck ((0:Int)<=(u8.wrap x0)/\(u8.wrap x0)<(qR.size:Int)) (K0 (i64.wrap (x1+(i64.wrap ((qR.data.toList.getD (u8.wrap x0).toNat 0).toNat:Int)))))
structure q8 (x0 x1:Int)(K0:Int->Prop):Prop where
 it:if (decide (256<=x0))=true then ck ((0:Int)<=8) (rK ((x0).fdiv (2 ^ (min ((8:Int)).toNat (u64).bits))) (i64.wrap (x1+8)) (fun y1=>K0 y1))else rK x0 x1 (fun y2=>K0 y2)
structure rR (x0 x1:Int)(K0:Int->Prop):Prop where
 it:if (decide (65536<=x0))=true then ck ((0:Int)<=16) (q8 ((x0).fdiv (2 ^ (min ((16:Int)).toNat (u64).bits))) (i64.wrap (x1+16)) (fun y1=>K0 y1))else q8 x0 x1 (fun y2=>K0 y2)
structure DA (a0:Int)(Q:Int->Prop):Prop where
 it:if (decide (4294967296<=a0))=true then ck ((0:Int)<=32) (rR ((a0).fdiv (2 ^ (min ((32:Int)).toNat (u64).bits))) 32 (fun y3=>Q y3))else rR a0 0 (fun y4=>Q y4)
def SA:Ent:=⟨[0,2],[.lf (.int .u64),sI],[],fun⟨⟨a,b,_⟩,_⟩ k=>rR a b (fun y5=>k .ret ⟨[(2,vI y5)],[]⟩)⟩
def S4:Ent:=⟨[0,2],[.lf (.int .u64),sI],[],fun⟨⟨a,b,_⟩,_⟩ k=>q8 a b (fun y6=>k .ret ⟨[(2,vI y6)],[]⟩)⟩
def TA:Ent:=⟨[0,2],[.lf (.int .u64),sI],[],fun⟨⟨a,b,_⟩,_⟩ k=>rK a b (fun y7=>k .ret ⟨[(2,vI y7)],[]⟩)⟩
def UA:=X6.put tt 185 Tryz.func185 [2] [] [(7,SA),(15,S4),(31,TA)] [.lf (.int .u64)] [] [(false,aD)] (fun x=>DA x.1) ⟨fun _ _ hs ⟨⟨_,_,_⟩,_⟩ _ h=>aR hs h.it,fun _ _ hs ⟨⟨_,_,_⟩,_⟩ _ h=>aR hs h.it,fun _ _ hs ⟨⟨_,_,_⟩,_⟩ _ h=>aR hs h.it,trivial⟩ fun _ _ h=>⟨_,h.it,by kernel_rfl⟩
structure SW (a0:Int)(Q:Int->Prop):Prop where
 it:xZ a0 (fun r1=>DA (u64.wrap (aO r1 (i64.wrap (0-r1)))) (fun r2=>Q r2))
def aDo:=UA.put tt 165 Tryz.func165 [2] [] [] [sI] [] [(false,aD)] (fun x=>SW x.1) trivial fun _ _ h=>⟨_,h.it,by kernel_rfl⟩
def tG (x1:List Int)(x2:Int)(K0:Int->Prop)(s:Int×Int)(nx:(Int×Int)->Prop):Prop :=
 if (decide (s.2<x2))=true then ck (aG s.2 x1.length) (SW (i64.wrap (x1.getD ((s.2).toNat) 0)) (fun r2=>nx (aO s.1 r2,i64.wrap (s.2+1))))else K0 s.1
structure M9 (x1:List Int)(x2:Int)(K0:Int->Prop)(s:Int×Int):Prop where
 it:Go.Mach.Loop (tG x1 x2 K0) s
structure LA (a0:pQ)(Q:Int->Prop):Prop where
 it:A4 a0 (fun r1=>if (!r1)=true then Q 0 else M9 a0.2.2 (a0.2.2.length:Int) (fun y3=>Q y3) (0,0))
def YO:Ent:=⟨[3,10,11,12],[sI,sZ aX,sI,sI],[],fun⟨⟨a,b,c,d,_⟩,_⟩ k=>M9 b c (fun y4=>k (.exit 0) ⟨[(3,vI y4)],[]⟩) (a,d)⟩
def aAM:=aDo.put tt 102 Tryz.func102 [2] [] [(122,YO)] [.agg YF] [] [(false,aD)] (fun x=>LA (x.1.1,(x.1.2.1,x.1.2.2.1))) ⟨fun _ _ hs ⟨⟨a,b,c,d,_⟩,_⟩ _ h=>aH hs (fun y=>⟨⟨y.1,b,c,y.2,()⟩,()⟩) (a,d) h.it,trivial⟩ fun _ _ h=>⟨_,h.it,by kernel_rfl⟩
structure bP (a0:List Int)(Q:(List Int)->Prop):Prop where
 it:nq a0 (Q ([]:List Int)) (ck ((([]:List Int).length+a0.length)*8<=140737488355328) (Q (([]:List Int)++a0)))
def KJ:=aAM.put tt 28 Tryz.func28 [2] [] [] [sZ aD] [] [(false,(.slc aD))] (fun x=>bP x.1) trivial fun _ _ h=>⟨_,h.it,by kernel_rfl⟩
structure JZ (a0:Int)(Q:Int->Prop):Prop where
 it:ck ((0:Int)<=30) (ck ((0:Int)<=27) (ck ((0:Int)<=31) (Q (u64.wrap ((BitVec.ofInt (u64).bits (u64.wrap ((u64.wrap ((BitVec.ofInt (u64).bits (u64.wrap ((u64.wrap ((BitVec.ofInt (u64).bits (u64.wrap (a0+11400714819323198485)) ^^^ BitVec.ofInt (u64).bits ((u64.wrap (a0+11400714819323198485)).fdiv (2 ^ (min ((30:Int)).toNat (u64).bits)))).toNat:Nat))*13787848793156543929)) ^^^ BitVec.ofInt (u64).bits ((u64.wrap ((u64.wrap ((BitVec.ofInt (u64).bits (u64.wrap (a0+11400714819323198485)) ^^^ BitVec.ofInt (u64).bits ((u64.wrap (a0+11400714819323198485)).fdiv (2 ^ (min ((30:Int)).toNat (u64).bits)))).toNat:Nat))*13787848793156543929)).fdiv (2 ^ (min ((27:Int)).toNat (u64).bits)))).toNat:Nat))*10723151780598845931)) ^^^ BitVec.ofInt (u64).bits ((u64.wrap ((u64.wrap ((BitVec.ofInt (u64).bits (u64.wrap ((u64.wrap ((BitVec.ofInt (u64).bits (u64.wrap (a0+11400714819323198485)) ^^^ BitVec.ofInt (u64).bits ((u64.wrap (a0+11400714819323198485)).fdiv (2 ^ (min ((30:Int)).toNat (u64).bits)))).toNat:Nat))*13787848793156543929)) ^^^ BitVec.ofInt (u64).bits ((u64.wrap ((u64.wrap ((BitVec.ofInt (u64).bits (u64.wrap (a0+11400714819323198485)) ^^^ BitVec.ofInt (u64).bits ((u64.wrap (a0+11400714819323198485)).fdiv (2 ^ (min ((30:Int)).toNat (u64).bits)))).toNat:Nat))*13787848793156543929)).fdiv (2 ^ (min ((27:Int)).toNat (u64).bits)))).toNat:Nat))*10723151780598845931)).fdiv (2 ^ (min ((31:Int)).toNat (u64).bits)))).toNat:Nat)))))
def aGi:=KJ.put tt 168 Tryz.func168 [2] [] [] [.lf (.int .u64)] [] [(false,(.int .u64))] (fun x=>JZ x.1) trivial fun _ _ h=>⟨_,h.it,by kernel_rfl⟩
structure Y4 (a0 a1 a2:Int)(Q:Int->Prop):Prop where
 it:JZ a0 (fun r1=>JZ (u64.wrap ((BitVec.ofInt (u64).bits r1 ^^^ BitVec.ofInt (u64).bits a1).toNat:Nat)) (fun r2=>JZ (u64.wrap ((BitVec.ofInt (u64).bits r2 ^^^ BitVec.ofInt (u64).bits a2).toNat:Nat)) (fun r3=>Q r3)))
def aJQ:=aGi.put tt 104 Tryz.func104 [6] [] [] [.lf (.int .u64),.lf (.int .u64),.lf (.int .u64)] [] [(false,(.int .u64))] (fun x=>Y4 x.1 x.2.1 x.2.2.1) trivial fun _ _ h=>⟨_,h.it,by kernel_rfl⟩
structure O8 (a0:Int)(Q:Int->Prop):Prop where
 it:l5 a0 0 62 (fun r1=>Q r1)
def aCC:=aJQ.put tt 166 Tryz.func166 [2] [] [] [sI] [] [(false,aD)] (fun x=>O8 x.1) trivial fun _ _ h=>⟨_,h.it,by kernel_rfl⟩
structure KR (a0 a1 a2:Int)(Q:Int->Prop):Prop where
 it:O8 a1 (fun r1=>xZ a0 (fun r2=>ck ((0:Int)<=r1) (ck ((0:Int)<=r1) (Q ((i64.wrap (r2+(i64.wrap (u64.wrap ((BitVec.ofInt (u64).bits a2 &&& BitVec.ofInt (u64).bits (u64.wrap ((u64.wrap (1*2 ^ (min (r1).toNat (u64).bits)))-1))).toNat:Nat))))).fdiv (2 ^ (min (r1).toNat (i64).bits)))))))
def aAW:=aCC.put tt 103 Tryz.func103 [6] [] [] [sI,sI,.lf (.int .u64)] [] [(false,aD)] (fun x=>KR x.1 x.2.1 x.2.2.1) trivial fun _ _ h=>⟨_,h.it,by kernel_rfl⟩
structure PC (a0 a1:Int)(Q:Int->Prop):Prop where
 it:l5 a1 1 32 (fun r1=>ck ((0:Int)<=(i64.wrap (r1-1))) (xZ a0 (fun r2=>jZ r2 (i64.wrap (0-(i64.wrap ((i64.wrap (1*2 ^ (min (i64.wrap (r1-1)).toNat (i64).bits)))-1)))) (i64.wrap ((i64.wrap (1*2 ^ (min (i64.wrap (r1-1)).toNat (i64).bits)))-1)) (fun r3=>Q r3))))
def aBs:=aAW.put tt 105 Tryz.func105 [4] [] [] [sI,sI] [] [(false,aD)] (fun x=>PC x.1 x.2.1) trivial fun _ _ h=>⟨_,h.it,by kernel_rfl⟩
def s9 (x0 x1 x2 x3:Int)(x4:List Int)(x5:Int)(K0:(List Int)->Prop)(s:Int×List Int)(nx:(Int×List Int)->Prop):Prop :=
 if (decide (s.1<x5))=true then ck (aG s.1 x4.length) (Y4 x1 x2 (u64.wrap s.1) (fun r8=>KR (i64.wrap (x4.getD ((s.1).toNat) 0)) x3 r8 (fun r9=>PC r9 x0 (fun r10=>ck ((s.2.length+[i8.wrap r10].length)*1<=140737488355328) (nx (i64.wrap (s.1+1),s.2++[i8.wrap r10]))))))else K0 s.2
structure NE (x0 x1 x2 x3:Int)(x4:List Int)(x5:Int)(K0:(List Int)->Prop)(s:Int×List Int):Prop where
 it:Go.Mach.Loop (s9 x0 x1 x2 x3 x4 x5 K0) s
structure DK (a0:pQ)(a1 a2 a3:Int)(Q:(bL×Int)->Prop):Prop where
 it:A4 a0 (fun r1=>if (((!r1)||(decide (a1<2)))||(decide (8<a1)))=true then Q ((([]:List Int),(0,([]:List Int))),1)else LA a0 (fun r2=>bP a0.1 (fun r3=>EU (i64.wrap (a0.2.1+(aO 0 (i64.wrap (r2-(i64.wrap (a1-1))))))) 64 (fun r4=>if (!r4)=true then Q ((([]:List Int),(0,([]:List Int))),3)else NE a1 a2 a3 (aO 0 (i64.wrap (r2-(i64.wrap (a1-1))))) a0.2.2 (a0.2.2.length:Int) (fun y11=>Q ((r3,((i64.wrap (a0.2.1+(aO 0 (i64.wrap (r2-(i64.wrap (a1-1))))))),y11)),0)) (0,([]:List Int))))))
def X9:Ent:=⟨[1,2,3,8,10,11,47,48,49],[sI,.lf (.int .u64),.lf (.int .u64),sPt 0,sI,sPt 1,sZ aX,sI,sI],[dJ,.box [.cst (.own 2),lI,eD] false,oQa],fun⟨⟨a,b,c,_,d,_,e,f,g,_⟩,⟨⟨_,i,_⟩,⟨_,j,_⟩,l,_⟩⟩ k=>NE a b c d e f (fun y12=>k (.exit 0) ⟨[(8,.ptr 0 0),(11,.ptr 1 0)],[.box [aL,vI i,aL] false,.box [.own 2,vI j,.own 3] false,.lst true aD l false,.lst true aI y12 false]⟩) (g,([]:List Int))⟩
def aBc:=aBs.put tt 59 Tryz.func59 [8,9] [(506,[⟨11,some 2,false,aI⟩])] [(506,X9)] [.agg YF,sI,.lf (.int .u64),.lf (.int .u64)] [] [(true,aY),(false,aD)] (fun x=>DK (x.1.1,(x.1.2.1,x.1.2.2.1)) x.2.1 x.2.2.1 x.2.2.2.1) ⟨fun _ _ hs ⟨⟨a,b,c,_,d,_,e,f,g,_⟩,⟨⟨_,i,_⟩,⟨_,j,_⟩,l,_⟩⟩ _ h=>dS hs (fun y=>⟨[(1,vI a),(2,vK .u64 b),(3,vK .u64 c),(8,.ptr 0 0),(10,vI d),(11,.ptr 1 0),(47,vZ aX e),(48,vI f),(49,vI y.1)],[.box [aL,vI i,aL] false,.box [.own 2,vI j,.own 3] false,.lst true aD l false,.lst true aI y.2 false]⟩) (g,([]:List Int)) h.it,trivial⟩ fun _ _ h=>⟨_,h.it,by kernel_rfl⟩
def kD (x0 x1:List Int)(x2:Int)(K0 K1:Unit->Prop)(s:Int)(nx:Int->Prop):Prop :=
 if (decide (s<x2))=true then ck (aG s x0.length) (ck (aG s x1.length) (if ((x0.getD ((s).toNat) 0) != (x1.getD ((s).toNat) 0))=true then K1 ()else nx (i64.wrap (s+1))))else K0 ()
structure yK (x0 x1:List Int)(x2:Int)(K0 K1:Unit->Prop)(s:Int):Prop where
 it:Go.Mach.Loop (kD x0 x1 x2 K0 K1) s
structure lT (a0 a1:List Int)(Q:Bool->Prop):Prop where
 it:if ((a0.length:Int) != (a1.length:Int))=true then Q false else yK a0 a1 (a0.length:Int) (fun _=>Q true) (fun _=>Q false) 0
def IY:Ent:=⟨[0,1,12,13],[sZ aD,sZ aD,sI,sI],[],fun⟨⟨a,b,c,d,_⟩,_⟩ k=>yK a b c (fun _=>k (.exit 0) ⟨[],[]⟩) (fun _=>k .ret ⟨[(4,vB false)],[]⟩) d⟩
def MS:=aBc.put tt 57 Tryz.func57 [4] [] [(58,IY)] [sZ aD,sZ aD] [] [(false,.bool)] (fun x=>lT x.1 x.2.1) ⟨fun _ _ hs ⟨⟨a,b,c,d,_⟩,_⟩ _ h=>aH hs (fun y=>⟨⟨a,b,c,y,()⟩,()⟩) d h.it,trivial⟩ fun _ _ h=>⟨_,h.it,by kernel_rfl⟩
structure jS (a0 a1:List Int)(Q:Bool->Prop):Prop where
 it:lT a0 a1 (fun r1=>Q r1)
def aDu:=MS.put tt 27 Tryz.func27 [4] [] [] [sZ aD,sZ aD] [] [(false,.bool)] (fun x=>jS x.1 x.2.1) trivial fun _ _ h=>⟨_,h.it,by kernel_rfl⟩
def D3 (x0 x3:Int)(x4:List Int)(x6:Int)(x7:List Int)(x9:Int)(K0:(List Int)->Prop)(s:Int×List Int)(nx:(Int×List Int)->Prop):Prop :=
 if (decide (s.1<x0))=true then ck (aG s.1 x4.length) (yL (i64.wrap (x4.getD ((s.1).toNat) 0)) x3 x9 (fun r9=>ck (aG s.1 x7.length) (yL (i64.wrap (x7.getD ((s.1).toNat) 0)) x6 x9 (fun r10=>ck ((s.2.length+[i32.wrap (i64.wrap (r9+r10))].length)*4<=140737488355328) (nx (i64.wrap (s.1+1),s.2++[i32.wrap (i64.wrap (r9+r10))]))))))else K0 s.2
structure aBL (x0 x3:Int)(x4:List Int)(x6:Int)(x7:List Int)(x9:Int)(K0:(List Int)->Prop)(s:Int×List Int):Prop where
 it:Go.Mach.Loop (D3 x0 x3 x4 x6 x7 x9 K0) s
structure UU (a0 a1:bL)(Q:(pQ×Int)->Prop):Prop where
 it:cS a0 (fun r1=>jn (fun v2=>if v2=true then Q ((([]:List Int),(0,([]:List Int))),1)else jS a0.1 a1.1 (fun r5=>if (!r5)=true then Q ((([]:List Int),(0,([]:List Int))),2)else bP a0.1 (fun r6=>aBL (a0.2.2.length:Int) a0.2.1 a0.2.2 a1.2.1 a1.2.2 (aO (aV a0.2.1 a1.2.1) (i64.wrap ((aO a0.2.1 a1.2.1)-12))) (fun y11=>Q ((r6,((aO (aV a0.2.1 a1.2.1) (i64.wrap ((aO a0.2.1 a1.2.1)-12))),y11)),0)) (0,([]:List Int))))) (fun J3=>if (!r1)=true then J3 true else cS a1 (fun r4=>J3 (!r4))))
def aGo:Ent:=⟨[2,3,4,6,45,46],[sPt 0,sPt 1,sPt 2,sPt 3,sI,sI],[bV,bV,dJ,.box [.cst (.own 4),lI,eD] false,oQa],fun⟨⟨_,_,_,_,a,b,_⟩,⟨⟨_,d,e,_⟩,⟨_,g,i,_⟩,⟨_,j,_⟩,⟨_,l,_⟩,m,_⟩⟩ k=>aBL a d e g i l (fun y12=>k (.exit 1) ⟨[(4,.ptr 0 0),(6,.ptr 1 0)],[.box [aL,vI j,aL] false,.box [.own 2,vI l,.own 3] false,.lst true aD m false,.lst true aX y12 false]⟩) (b,([]:List Int))⟩
def aI6:=aDu.put tt 100 Tryz.func100 [4,5] [(122,[⟨6,some 2,false,aX⟩])] [(122,aGo)] [.agg cO,.agg cO] [] [(true,uF),(false,aD)] (fun x=>UU (x.1.1,(x.1.2.1,x.1.2.2.1)) (x.2.1.1,(x.2.1.2.1,x.2.1.2.2.1))) ⟨fun _ _ hs ⟨⟨_,_,_,_,a,b,_⟩,⟨⟨c,d,e,_⟩,⟨f,g,i,_⟩,⟨_,j,_⟩,⟨_,l,_⟩,m,_⟩⟩ _ h=>dS hs (fun y=>⟨[(2,.ptr 0 0),(3,.ptr 1 0),(4,.ptr 2 0),(6,.ptr 3 0),(45,vI a),(46,vI y.1)],[.box [vZ aD c,vI d,vZ aI e] false,.box [vZ aD f,vI g,vZ aI i] false,.box [aL,vI j,aL] false,.box [.own 4,vI l,.own 5] false,.lst true aD m false,.lst true aX y.2 false]⟩) (b,([]:List Int)) h.it,trivial⟩ fun _ _ h=>⟨_,h.it,by kernel_rfl⟩
structure XW (a0:Int)(a1:List Int)(a2:Int)(a3:List Int)(Q:Int->Prop):Prop where
 it:ck (aG a0 a3.length) (Q (aO 0 (a3.getD ((a0).toNat) 0)))
def aCK:=aI6.put tt 110 Tryz.func110 [3] [] [] [sI,.bx cO] [] [(false,aI)] (fun x=>XW x.1 x.2.1.1 x.2.1.2.1 x.2.1.2.2.1) trivial fun _ _ h=>⟨_,h.it,by kernel_rfl⟩
def iR (x0:List Int)(x1:Int)(x2:List Int)(x3:Int)(K0:(List Int)->Prop)(s:Int×List Int)(nx:(Int×List Int)->Prop):Prop :=
 if (decide (s.1<x3))=true then XW s.1 x0 x1 x2 (fun r3=>ck ((s.2.length+[r3].length)*1<=140737488355328) (nx (i64.wrap (s.1+1),s.2++[r3])))else K0 s.2
structure u7 (x0:List Int)(x1:Int)(x2:List Int)(x3:Int)(K0:(List Int)->Prop)(s:Int×List Int):Prop where
 it:Go.Mach.Loop (iR x0 x1 x2 x3 K0) s
structure zV (a0:bL)(a1:List Int)(a2:Int)(a3:List Int)(Q:bL->Prop):Prop where
 it:bP a0.1 (fun r1=>u7 a1 a2 a3 (a0.2.2.length:Int) (fun y4=>Q (r1,(a0.2.1,y4))) (0,([]:List Int)))
def FX:Ent:=⟨[1,4,5,15,16],[.fn 110 [.bx cO],sPt 0,sPt 1,sI,sI],[dJ,.box [.cst (.own 2),lI,eD] false,oQa],fun⟨⟨⟨⟨a,b,c,_⟩,_⟩,_,_,d,e,_⟩,⟨⟨_,f,_⟩,⟨_,g,_⟩,i,_⟩⟩ k=>u7 a b c d (fun y5=>k (.exit 0) ⟨[(4,.ptr 0 0),(5,.ptr 1 0)],[.box [aL,vI f,aL] false,.box [.own 2,vI g,.own 3] false,.lst true aD i false,.lst true aI y5 false]⟩) (e,([]:List Int))⟩
def HW:=aCK.putX tt 109 Tryz.func109 [4] [(58,[⟨5,some 2,false,aI⟩])] [(58,FX)] [.agg cO,.fn 110 [.bx cO]] [] [(true,aY)] (fun x=>zV (x.1.1,(x.1.2.1,x.1.2.2.1)) x.2.1.1.1 x.2.1.1.2.1 x.2.1.1.2.2.1) [110] none false 0 hI0 ⟨fun _ _ hs ⟨⟨⟨⟨a,b,c,_⟩,_⟩,_,_,d,e,_⟩,⟨⟨_,f,_⟩,⟨_,g,_⟩,i,_⟩⟩ _ h=>dS hs (fun y=>⟨[(1,.fn 110 [.bx [vZ aD a,vI b,vZ aI c] 0]),(4,.ptr 0 0),(5,.ptr 1 0),(15,vI d),(16,vI y.1)],[.box [aL,vI f,aL] false,.box [.own 2,vI g,.own 3] false,.lst true aD i false,.lst true aI y.2 false]⟩) (e,([]:List Int)) h.it,trivial⟩ fun _ _ h=>⟨_,h.it,by kernel_rfl⟩
structure WS (a0:bL)(Q:(bL×Int)->Prop):Prop where
 it:cS a0 (fun r1=>if (!r1)=true then Q ((([]:List Int),(0,([]:List Int))),1)else zV a0 a0.1 a0.2.1 a0.2.2 (fun r2=>Q (r2,0)))
def aEy:=HW.put tt 61 Tryz.func61 [2,3] [] [] [.agg cO] [] [(true,aY),(false,aD)] (fun x=>WS (x.1.1,(x.1.2.1,x.1.2.2.1))) trivial fun _ _ h=>⟨_,h.it,by kernel_rfl⟩
structure m9 (a0:List Int)(Q:(List Int)->Prop):Prop where
 it:nq a0 (Q ([]:List Int)) (ck ((([]:List Int).length+a0.length)*1<=140737488355328) (Q (([]:List Int)++a0)))
def HY:=aEy.put tt 29 Tryz.func29 [2] [] [] [sZ aI] [] [(false,(.slc aI))] (fun x=>m9 x.1) trivial fun _ _ h=>⟨_,h.it,by kernel_rfl⟩
structure MD (a0:bL)(a1:List Int)(Q:(bL×Int)->Prop):Prop where
 it:cS a0 (fun r1=>jn (fun v2=>if v2=true then Q ((([]:List Int),(0,([]:List Int))),1)else pN a1 (fun r5=>if (r5 != (a0.2.2.length:Int))=true then Q ((([]:List Int),(0,([]:List Int))),2)else bP a1 (fun r6=>m9 a0.2.2 (fun r7=>Q ((r6,(a0.2.1,r7)),0))))) (fun J3=>if (!r1)=true then J3 true else kM a1 (fun r4=>J3 (!r4))))
def aD4:=HY.put tt 111 Tryz.func111 [4,5] [] [] [.agg cO,sZ aD] [] [(true,aY),(false,aD)] (fun x=>MD (x.1.1,(x.1.2.1,x.1.2.2.1)) x.2.1) trivial fun _ _ h=>⟨_,h.it,by kernel_rfl⟩
structure V6 (a0:bL)(Q:(bL×Int)->Prop):Prop where
 it:cS a0 (fun r1=>if (!r1)=true then Q ((([]:List Int),(0,([]:List Int))),1)else ck (aG 0 a0.1.length) (pN a0.1 (fun r2=>ck (aG 0 a0.1.length) (ck ((a0.1.getD 0 0)≠(0:Int)) (MD a0 [a0.1.getD 0 0,i64.wrap ((r2).tdiv (a0.1.getD 0 0))] (fun r3=>Q (r3.1,r3.2)))))))
def aFY:=aD4.put tt 62 Tryz.func62 [2,3] [] [] [.agg cO] [] [(true,aY),(false,aD)] (fun x=>V6 (x.1.1,(x.1.2.1,x.1.2.2.1))) trivial fun _ _ h=>⟨_,h.it,by kernel_rfl⟩
structure sG (a0 a1 a2:Int)(Q:Bool->Prop):Prop where
 it:Q ((decide (a1<=a0))&&(decide (a0<=a2)))
def aGh:=aFY.put tt 152 Tryz.func152 [6] [] [] [sI,sI,sI] [] [(false,.bool)] (fun x=>sG x.1 x.2.1 x.2.2.1) trivial fun _ _ h=>⟨_,h.it,by kernel_rfl⟩
structure KI (a0:aZ)(Q:Bool->Prop):Prop where
 it:sG a0.1 1 8 (fun r1=>jn (fun v2=>jn (fun v5=>Q v5) (fun J6=>if v2=true then sG a0.2.2 1 16 (fun r7=>J6 r7)else J6 false)) (fun J3=>if r1=true then sG a0.2.1 1 16 (fun r4=>J3 r4)else J3 false))
def aA1:=aGh.put tt 151 Tryz.func151 [2] [] [] [.agg [lI,lI,lI]] [] [(false,.bool)] (fun x=>KI (x.1.1,(x.1.2.1,x.1.2.2.1))) trivial fun _ _ h=>⟨_,h.it,by kernel_rfl⟩
structure DM (a0:nR)(Q:Bool->Prop):Prop where
 it:sG a0.2.2.1 1 5 (fun r1=>jn (fun v2=>Q v2) (fun J3=>if r1=true then sG a0.2.2.2.1 1 4 (fun r4=>J3 r4)else J3 false))
def aAs:=aA1.put tt 183 Tryz.func183 [2] [] [] [.agg [lI,lI,lI,lI,lI,lI,lB]] [] [(false,.bool)] (fun x=>DM (x.1.1,(x.1.2.1,(x.1.2.2.1,(x.1.2.2.2.1,(x.1.2.2.2.2.1,(x.1.2.2.2.2.2.1,x.1.2.2.2.2.2.2.1))))))) trivial fun _ _ h=>⟨_,h.it,by kernel_rfl⟩
structure uQ  (K0:Unit->Prop):Prop where
 it:K0 ()
structure MT (x0:Int)(x1:Bool)(x2:Int)(x3:Bool)(x9 x16:Int)(K0:(Bool×Int)->Prop):Prop where
 it:if x3=true then K0 (x1,x16)else if (x2==7)=true then sG x9 0 (i64.wrap (x0-1)) (fun r12=>K0 (r12,x9))else K0 (false,x16)
structure KY (x0:Int)(x1:Bool)(x2:Int)(x3:Bool)(x4 x5 x6 x7 x8 x9:Int)(x10:Bool)(x13 x14 x16:Int)(K0:(Bool×Int×Int×Int)->Prop):Prop where
 it:if x3=true then DM (x4,(x5,(x6,(x7,(x8,(x9,x10)))))) (fun r11=>K0 (r11,x6,x7,x16))else if (x2==5)=true then MT x0 x1 x2 (x2==5) x9 x16 (fun y12=>K0 (y12.1,x13,x14,y12.2))else MT x0 x1 x2 (x2==6) x9 x16 (fun y13=>K0 (y13.1,x13,x14,y13.2))
structure WQ (a0:nR)(a1:Int)(Q:Bool->Prop):Prop where
 it:if (a0.1==1)=true then sG a0.2.1 1 4096 (fun r1=>uQ (fun _=>Q (r1&&((a0.1==a0.1)&&((a0.2.1==a0.2.1)&&((a0.2.2.1==0)&&((a0.2.2.2.1==0)&&((a0.2.2.2.2.1==0)&&((a0.2.2.2.2.2.1==0)&&((a0.2.2.2.2.2.2==a0.2.2.2.2.2.2)&&(true)))))))))))else if (a0.1==2)=true then sG a0.2.1 1 8 (fun r3=>jn (fun v4=>jn (fun v7=>uQ (fun _=>Q (v7&&((a0.1==a0.1)&&((a0.2.1==a0.2.1)&&((a0.2.2.1==a0.2.2.1)&&((a0.2.2.2.1==a0.2.2.2.1)&&((a0.2.2.2.2.1==a0.2.2.2.2.1)&&((a0.2.2.2.2.2.1==0)&&((a0.2.2.2.2.2.2==a0.2.2.2.2.2.2)&&(true))))))))))) (fun J8=>if v4=true then sG a0.2.2.2.2.1 0 (i64.wrap (a0.2.2.1-1)) (fun r9=>J8 r9)else J8 false)) (fun J5=>if r3=true then DM a0 (fun r6=>J5 r6)else J5 false))else if (a0.1==3)=true then KY a1 true a0.1 (a0.1==3) a0.1 a0.2.1 a0.2.2.1 a0.2.2.2.1 a0.2.2.2.2.1 a0.2.2.2.2.2.1 a0.2.2.2.2.2.2 0 0 0 (fun y14=>uQ (fun _=>Q (y14.1&&((a0.1==a0.1)&&((a0.2.1==0)&&((a0.2.2.1==y14.2.1)&&((a0.2.2.2.1==y14.2.2.1)&&((a0.2.2.2.2.1==0)&&((a0.2.2.2.2.2.1==y14.2.2.2)&&((a0.2.2.2.2.2.2==false)&&(true)))))))))))else KY a1 true a0.1 (a0.1==4) a0.1 a0.2.1 a0.2.2.1 a0.2.2.2.1 a0.2.2.2.2.1 a0.2.2.2.2.2.1 a0.2.2.2.2.2.2 0 0 0 (fun y16=>uQ (fun _=>Q (y16.1&&((a0.1==a0.1)&&((a0.2.1==0)&&((a0.2.2.1==y16.2.1)&&((a0.2.2.2.1==y16.2.2.1)&&((a0.2.2.2.2.1==0)&&((a0.2.2.2.2.2.1==y16.2.2.2)&&((a0.2.2.2.2.2.2==false)&&(true)))))))))))
def aDj:Ent:=⟨[2,5,6],[sPt 0,sPt 1,sB],[.box [lI,lI,lI,lI,lI,lI,lB] false,.box [lI,lI,lI,lI,lI,lI,lB] false],fun⟨⟨_,_,a,_⟩,⟨⟨b,c,d,e,f,g,i,_⟩,⟨j,l,m,n,o,p,q,_⟩,_⟩⟩ k=>uQ (fun _=>k .ret ⟨[(4,vB (a&&((b==j)&&((c==l)&&((d==m)&&((e==n)&&((f==o)&&((g==p)&&((i==q)&&(true))))))))))],[]⟩)⟩
def aEf:Ent:=⟨[1,2,5,6,11,42],[sI,sPt 0,sPt 1,sB,sI,sB],[.box [lI,lI,lI,lI,lI,lI,lB] false,.box [lI,lI,lI,lI,lI,lI,lB] false],fun⟨⟨a,_,_,b,c,d,_⟩,⟨⟨e,f,g,i,j,l,m,_⟩,⟨n,o,p,q,t,u,w,_⟩,_⟩⟩ k=>KY a b c d e f g i j l m p q u (fun y19=>k .normal ⟨[(2,.ptr 0 0),(5,.ptr 1 0),(6,vB y19.1)],[.box [vI e,vI f,vI g,vI i,vI j,vI l,vB m] false,.box [vI n,vI o,vI y19.2.1,vI y19.2.2.1,vI t,vI y19.2.2.2,vB w] false]⟩)⟩
def aEK:Ent:=⟨[1,2,5,6,11,53],[sI,sPt 0,sPt 1,sB,sI,sB],[.box [lI,lI,lI,lI,lI,lI,lB] false,.box [lI,lI,lI,lI,lI,lI,lB] false],fun⟨⟨a,_,_,b,c,d,_⟩,⟨⟨e,f,g,i,j,l,m,_⟩,⟨n,o,p,q,t,u,w,_⟩,_⟩⟩ k=>MT a b c d l u (fun y20=>k .normal ⟨[(2,.ptr 0 0),(5,.ptr 1 0),(6,vB y20.1)],[.box [vI e,vI f,vI g,vI i,vI j,vI l,vB m] false,.box [vI n,vI o,vI p,vI q,vI t,vI y20.2,vB w] false]⟩)⟩
def aFj:=aAs.put tt 153 Tryz.func153 [4] [] [(31,aDj),(3935,aEf),(15743,aEK)] [.agg [lI,lI,lI,lI,lI,lI,lB],sI] [] [(false,.bool)] (fun x=>WQ (x.1.1,(x.1.2.1,(x.1.2.2.1,(x.1.2.2.2.1,(x.1.2.2.2.2.1,(x.1.2.2.2.2.2.1,x.1.2.2.2.2.2.2.1)))))) x.2.1) ⟨fun _ _ hs ⟨⟨_,_,_,_⟩,⟨⟨_,_,_,_,_,_,_,_⟩,⟨_,_,_,_,_,_,_,_⟩,_⟩⟩ _ h=>aR hs h.it,fun _ _ hs ⟨⟨_,_,_,_,_,_,_⟩,⟨⟨_,_,_,_,_,_,_,_⟩,⟨_,_,_,_,_,_,_,_⟩,_⟩⟩ _ h=>aR hs h.it,fun _ _ hs ⟨⟨_,_,_,_,_,_,_⟩,⟨⟨_,_,_,_,_,_,_,_⟩,⟨_,_,_,_,_,_,_,_⟩,_⟩⟩ _ h=>aR hs h.it,trivial⟩ fun _ _ h=>⟨_,h.it,by kernel_rfl⟩
def yZ (x0:List nR)(x1:Int)(K0 K1:Unit->Prop)(s:Int)(nx:Int->Prop):Prop :=
 if (decide (s<x1))=true then ck (aG s x0.length) (WQ (x0.getD ((s).toNat) (0,(0,(0,(0,(0,(0,false))))))) s (fun r5=>if (!r5)=true then K1 ()else nx (i64.wrap (s+1))))else K0 ()
structure TE (x0:List nR)(x1:Int)(K0 K1:Unit->Prop)(s:Int):Prop where
 it:Go.Mach.Loop (yZ x0 x1 K0 K1) s
structure VF (a0:Q4)(Q:Bool->Prop):Prop where
 it:KI a0.1 (fun r1=>jn (fun v2=>if v2=true then Q false else TE a0.2 (a0.2.length:Int) (fun _=>Q true) (fun _=>Q false) 0) (fun J3=>if (!r1)=true then J3 true else sG (a0.2.length:Int) 1 12 (fun r4=>J3 (!r4))))
def aDq:Ent:=⟨[17,18,19],[sZ cP,sI,sI],[],fun⟨⟨a,b,c,_⟩,_⟩ k=>TE a b (fun _=>k (.exit 0) ⟨[],[]⟩) (fun _=>k .ret ⟨[(2,vB false)],[]⟩) c⟩
def aGB:=aFj.put tt 91 Tryz.func91 [2] [] [(58,aDq)] [.agg [lI,lI,lI,lZ cP]] [] [(false,.bool)] (fun x=>VF ((x.1.1,(x.1.2.1,x.1.2.2.1)),x.1.2.2.2.1)) ⟨fun _ _ hs ⟨⟨a,b,c,_⟩,_⟩ _ h=>aH hs (fun y=>⟨⟨a,b,y,()⟩,()⟩) c h.it,trivial⟩ fun _ _ h=>⟨_,h.it,by kernel_rfl⟩
def rL (x1:List Int)(x2:Int)(K0:Int->Prop)(s:Int×Int)(nx:(Int×Int)->Prop):Prop :=
 if (decide (s.2<x2))=true then ck (aG s.2 x1.length) (nx (i64.wrap (s.1*(x1.getD ((s.2).toNat) 0)),i64.wrap (s.2+1)))else K0 s.1
structure JU (x1:List Int)(x2:Int)(K0:Int->Prop)(s:Int×Int):Prop where
 it:Go.Mach.Loop (rL x1 x2 K0) s
structure sP (a0:List Int)(Q:Int->Prop):Prop where
 it:JU a0 (a0.length:Int) (fun y1=>Q y1) (1,0)
def WR:Ent:=⟨[3,6,7,8],[sI,sZ aD,sI,sI],[],fun⟨⟨a,b,c,d,_⟩,_⟩ k=>JU b c (fun y2=>k (.exit 0) ⟨[(3,vI y2)],[]⟩) (a,d)⟩
def X3:=aGB.put tt 92 Tryz.func92 [2] [] [(58,WR)] [sZ aD] [] [(false,aD)] (fun x=>sP x.1) ⟨fun _ _ hs ⟨⟨a,b,c,d,_⟩,_⟩ _ h=>aH hs (fun y=>⟨⟨y.1,b,c,y.2,()⟩,()⟩) (a,d) h.it,trivial⟩ fun _ _ h=>⟨_,h.it,by kernel_rfl⟩
structure uX (a0:List Int)(a1:Int)(a2:nR)(Q:(List Int)->Prop):Prop where
 it:if ((a0.length:Int) != 3)=true then Q ([]:List Int)else ck (aG 1 a0.length) (sQ (a0.getD 1 0) a2.2.2.1 a2.2.2.2.1 a2.2.2.2.2.1 (fun r1=>ck (aG 2 a0.length) (sQ (a0.getD 2 0) a2.2.2.1 a2.2.2.2.1 a2.2.2.2.2.1 (fun r2=>if ((r1==0)||(r2==0))=true then Q ([]:List Int)else ck ([a1,r1,r2]≠[]) (Q [a1,r1,r2])))))
def aAi:=X3.put tt 154 Tryz.func154 [6] [] [] [sZ aD,sI,.agg [lI,lI,lI,lI,lI,lI,lB]] [.z] [(false,(.slc aD))] (fun x=>uX x.1 x.2.1 (x.2.2.1.1,(x.2.2.1.2.1,(x.2.2.1.2.2.1,(x.2.2.1.2.2.2.1,(x.2.2.1.2.2.2.2.1,(x.2.2.1.2.2.2.2.2.1,x.2.2.1.2.2.2.2.2.2.1))))))) trivial fun _ _ h=>⟨_,h.it,by kernel_rfl⟩
structure PK (a0:nR)(a1:List (List Int))(Q:(List Int)->Prop):Prop where
 it:ck (aG (i64.wrap ((a1.length:Int)-1)) a1.length) (if (a0.1==1)=true then if (((a1.getD ((i64.wrap ((a1.length:Int)-1)).toNat) []).length:Int)==1)=true then ck ([a0.2.1]≠[]) (Q [a0.2.1])else Q ([]:List Int)else if (a0.1==2)=true then uX (a1.getD ((i64.wrap ((a1.length:Int)-1)).toNat) []) a0.2.1 a0 (fun r1=>nz r1 (Q ([]:List Int)) (ck (r1≠[]) (Q r1)))else if (a0.1==3)=true then if (a0.1==3)=true then ck (aG 0 (a1.getD ((i64.wrap ((a1.length:Int)-1)).toNat) []).length) (uX (a1.getD ((i64.wrap ((a1.length:Int)-1)).toNat) []) ((a1.getD ((i64.wrap ((a1.length:Int)-1)).toNat) []).getD 0 0) a0 (fun r2=>nz r2 (Q ([]:List Int)) (ck (r2≠[]) (Q r2))))else if (a0.1==5)=true then bP (a1.getD ((i64.wrap ((a1.length:Int)-1)).toNat) []) (fun r3=>ck (r3≠[]) (Q r3))else if (a0.1==6)=true then sP (a1.getD ((i64.wrap ((a1.length:Int)-1)).toNat) []) (fun r4=>ck ([r4]≠[]) (Q [r4]))else if (a0.1==7)=true then ck (aG a0.2.2.2.2.2.1 a1.length) (lT (a1.getD ((a0.2.2.2.2.2.1).toNat) []) (a1.getD ((i64.wrap ((a1.length:Int)-1)).toNat) []) (fun r5=>if r5=true then bP (a1.getD ((i64.wrap ((a1.length:Int)-1)).toNat) []) (fun r6=>ck (r6≠[]) (Q r6))else Q ([]:List Int)))else Q ([]:List Int)else if (a0.1==4)=true then ck (aG 0 (a1.getD ((i64.wrap ((a1.length:Int)-1)).toNat) []).length) (uX (a1.getD ((i64.wrap ((a1.length:Int)-1)).toNat) []) ((a1.getD ((i64.wrap ((a1.length:Int)-1)).toNat) []).getD 0 0) a0 (fun r7=>nz r7 (Q ([]:List Int)) (ck (r7≠[]) (Q r7))))else if (a0.1==5)=true then bP (a1.getD ((i64.wrap ((a1.length:Int)-1)).toNat) []) (fun r8=>ck (r8≠[]) (Q r8))else if (a0.1==6)=true then sP (a1.getD ((i64.wrap ((a1.length:Int)-1)).toNat) []) (fun r9=>ck ([r9]≠[]) (Q [r9]))else if (a0.1==7)=true then ck (aG a0.2.2.2.2.2.1 a1.length) (lT (a1.getD ((a0.2.2.2.2.2.1).toNat) []) (a1.getD ((i64.wrap ((a1.length:Int)-1)).toNat) []) (fun r10=>if r10=true then bP (a1.getD ((i64.wrap ((a1.length:Int)-1)).toNat) []) (fun r11=>ck (r11≠[]) (Q r11))else Q ([]:List Int)))else Q ([]:List Int))
def aCO:=aAi.put tt 93 Tryz.func93 [4] [] [] [.agg [lI,lI,lI,lI,lI,lI,lB],sZ (.slc aD)] [.z] [(false,(.slc aD))] (fun x=>PK (x.1.1,(x.1.2.1,(x.1.2.2.1,(x.1.2.2.2.1,(x.1.2.2.2.2.1,(x.1.2.2.2.2.2.1,x.1.2.2.2.2.2.2.1)))))) x.2.1) trivial fun _ _ h=>⟨_,h.it,by kernel_rfl⟩
def tD (x0:List nR)(x1:Int)(K0:(List (List Int))->Prop)(K1:(Int×Int)->Prop)(s:Int×List (List Int))(nx:(Int×List (List Int))->Prop):Prop :=
 if (decide (s.1<x1))=true then ck (aG s.1 x0.length) (PK (x0.getD ((s.1).toNat) (0,(0,(0,(0,(0,(0,false))))))) s.2 (fun r3=>nz r3 (K1 (i64.wrap (s.1+1),2)) (nq r3 (K1 (i64.wrap (s.1+1),2)) (sP r3 (fun r4=>if (decide (8192<r4))=true then K1 (i64.wrap (s.1+1),1)else ck ((s.2.length+[r3].length)*24<=140737488355328) (nx (i64.wrap (s.1+1),s.2++[r3])))))))else K0 s.2
structure MY (x0:List nR)(x1:Int)(K0:(List (List Int))->Prop)(K1:(Int×Int)->Prop)(s:Int×List (List Int)):Prop where
 it:Go.Mach.Loop (tD x0 x1 K0 K1) s
structure yY (a0:Q4)(Q:((List (List Int))×Int×Int)->Prop):Prop where
 it:VF a0 (fun r1=>if (!r1)=true then Q (([]:List (List Int)),0,1)else ck (aG 0 [([a0.1.1,a0.1.2.1,a0.1.2.2]:List Int)].length) (sP ([a0.1.1,a0.1.2.1,a0.1.2.2]:List Int) (fun r2=>if (decide (8192<r2))=true then Q (([]:List (List Int)),0,1)else MY a0.2 (a0.2.length:Int) (fun y5=>Q (y5,0,0)) (fun y6=>Q (([]:List (List Int)),y6.1,y6.2)) (0,[([a0.1.1,a0.1.2.1,a0.1.2.2]:List Int)]))))
def YJ:Ent:=⟨[5,21,22,23],[sC (.own 0),sZ cP,sI,sI],[.lst true (.slc aD) false],fun⟨⟨_,a,b,c,_⟩,⟨d,_⟩⟩ k=>MY a b (fun y7=>k (.exit 0) ⟨[(5,.own 0)],[.lst true (.slc aD) y7 false]⟩) (fun y8=>k .ret ⟨[(2,aL),(3,vI y8.1),(4,vI y8.2)],[]⟩) (c,d)⟩
def aAR:=aCO.put tt 48 Tryz.func48 [2,3,4] [] [(250,YJ)] [.agg [lI,lI,lI,lZ cP]] [] [(false,(.slc (.slc aD))),(false,aD),(false,aD)] (fun x=>yY ((x.1.1,(x.1.2.1,x.1.2.2.1)),x.1.2.2.2.1)) ⟨fun _ _ hs ⟨⟨_,a,b,c,_⟩,⟨d,_⟩⟩ _ h=>aH hs (fun y=>⟨⟨(),a,b,y.1,()⟩,⟨y.2,()⟩⟩) (c,d) h.it,trivial⟩ fun _ _ h=>⟨_,h.it,by kernel_rfl⟩
structure WU (a0:nR)(a1:List Int)(Q:((List Int)×Int)->Prop):Prop where
 it:if (a0.1==1)=true then ck (aG 0 a1.length) (ck ([a0.2.1,a1.getD 0 0]≠[]) (Q ([a0.2.1,a1.getD 0 0],a0.2.1)))else if (a0.1==2)=true then ck (aG 0 a1.length) (ck ([a0.2.1,a1.getD 0 0,a0.2.2.1,a0.2.2.1]≠[]) (Q ([a0.2.1,a1.getD 0 0,a0.2.2.1,a0.2.2.1],a0.2.1)))else Q (([]:List Int),0)
def aFw:=aAR.put tt 94 Tryz.func94 [4,5] [] [] [.agg [lI,lI,lI,lI,lI,lI,lB],sZ aD] [.z] [(false,(.slc aD)),(false,aD)] (fun x=>WU (x.1.1,(x.1.2.1,(x.1.2.2.1,(x.1.2.2.2.1,(x.1.2.2.2.2.1,(x.1.2.2.2.2.2.1,x.1.2.2.2.2.2.2.1)))))) x.2.1) trivial fun _ _ h=>⟨_,h.it,by kernel_rfl⟩
structure P3 (a0:Q4)(a1:Int)(Q:((List Int)×Int)->Prop):Prop where
 it:yY a0 (fun r1=>if (((r1.2.2 != 0)||(decide (a1<1)))||(decide ((a0.2.length:Int)<a1)))=true then Q (([]:List Int),0)else ck (aG (i64.wrap (a1-1)) a0.2.length) (ck (aG (i64.wrap (a1-1)) r1.1.length) (WU (a0.2.getD ((i64.wrap (a1-1)).toNat) (0,(0,(0,(0,(0,(0,false))))))) (r1.1.getD ((i64.wrap (a1-1)).toNat) []) (fun r2=>nz r2.1 (kM ([]:List Int) (fun r3=>if (!r3)=true then Q (([]:List Int),0)else Q (([]:List Int),r2.2))) (kM r2.1 (fun r4=>if (!r4)=true then Q (([]:List Int),0)else ck (r2.1≠[]) (Q (r2.1,r2.2))))))))
def aBl:=aFw.put tt 49 Tryz.func49 [4,5] [] [] [.agg [lI,lI,lI,lZ cP],sI] [.z] [(false,(.slc aD)),(false,aD)] (fun x=>P3 ((x.1.1,(x.1.2.1,x.1.2.2.1)),x.1.2.2.2.1) x.2.1) trivial fun _ _ h=>⟨_,h.it,by kernel_rfl⟩
structure tW (a0:iL)(Q:Bool->Prop):Prop where
 it:Q ((((i64.wrap ((i64.wrap ((i64.wrap ((i64.wrap ((a0.1.1.length:Int)+(a0.1.2.2.length:Int)))+(a0.2.1.length:Int)))+(a0.2.2.1.length:Int)))+(a0.2.2.2.2.length:Int)))==0)&&(a0.1.2.1==0))&&(a0.2.2.2.1==0))
def aBw:=aBl.put tt 50 Tryz.func50 [2] [] [] [.agg [lZ aD,lI,lZ aI,lZ aX,lZ aD,lI,lZ aI]] [] [(false,.bool)] (fun x=>tW ((x.1.1,(x.1.2.1,x.1.2.2.1)),(x.1.2.2.2.1,(x.1.2.2.2.2.1,(x.1.2.2.2.2.2.1,x.1.2.2.2.2.2.2.1))))) trivial fun _ _ h=>⟨_,h.it,by kernel_rfl⟩
structure MH (a0:Int)(Q:Bool->Prop):Prop where
 it:Q ((decide (a0<(-1048576)))||(decide (1048576<a0)))
def aBQ:=aBw.put tt 52 Tryz.func52 [2] [] [] [.lf (.int .i32)] [] [(false,.bool)] (fun x=>MH x.1) trivial fun _ _ h=>⟨_,h.it,by kernel_rfl⟩
def cL (x0:List Int)(x1:Int)(K0:Unit->Prop)(K1:Int->Prop)(s:Int)(nx:Int->Prop):Prop :=
 if (decide (s<x1))=true then ck (aG s x0.length) (MH (x0.getD ((s).toNat) 0) (fun r1=>if r1=true then K1 s else nx (i64.wrap (s+1))))else K0 ()
structure iF (x0:List Int)(x1:Int)(K0:Unit->Prop)(K1:Int->Prop)(s:Int):Prop where
 it:Go.Mach.Loop (cL x0 x1 K0 K1) s
structure jP (a0:List Int)(Q:Int->Prop):Prop where
 it:iF a0 (a0.length:Int) (fun _=>Q (-1)) (fun y3=>Q y3) 0
def pP:Ent:=⟨[0,1,7,8],[sZ aX,sC (.fn 52 []),sI,sI],[],fun⟨⟨a,_,b,c,_⟩,_⟩ k=>iF a b (fun _=>k (.exit 0) ⟨[],[]⟩) (fun y5=>k .ret ⟨[(4,vI y5)],[]⟩) c⟩
def qG:=aBQ.putX tt 95 Tryz.func95 [4] [] [(26,pP)] [sZ aX,.fn 52 []] [] [(false,aD)] (fun x=>jP x.1) [52] none false 0 hI0 ⟨fun _ _ hs ⟨⟨a,_,b,c,_⟩,_⟩ _ h=>aH hs (fun y=>⟨⟨a,(),b,y,()⟩,()⟩) c h.it,trivial⟩ fun _ _ h=>⟨_,h.it,by kernel_rfl⟩
structure bU (a0:List Int)(Q:Bool->Prop):Prop where
 it:jP a0 (fun r1=>Q (decide (0<=r1)))
def o7:=qG.putX tt 51 Tryz.func51 [4] [] [] [sZ aX,.fn 52 []] [] [(false,.bool)] (fun x=>bU x.1) [52] none false 0 hI0 trivial fun _ _ h=>⟨_,h.it,by kernel_rfl⟩
structure jE (x2:Int)(K0:Int->Prop):Prop where
 it:K0 (i64.wrap (x2+1))
def xG (x0:List iL)(x1 x3 x4 x5:Int)(x6:List nR)(K0 K1:Unit->Prop)(s:Int)(nx:Int->Prop):Prop :=
 if (decide (s<x1))=true then ck (aG s x0.length) (P3 ((x3,(x4,x5)),x6) (i64.wrap (s+1)) (fun r2=>nz r2.1 (ck (aG s x6.length) (tW (x0.getD ((s).toNat) (([],(0,[])),([],([],(0,[]))))) (fun r3=>if (((!r3)||(((x6.getD ((s).toNat) (0,(0,(0,(0,(0,(0,false))))))).1)==1))||(((x6.getD ((s).toNat) (0,(0,(0,(0,(0,(0,false))))))).1)==2))=true then K1 ()else jE s (fun y4=>nx y4)))) (nq r2.1 (ck (aG s x6.length) (tW (x0.getD ((s).toNat) (([],(0,[])),([],([],(0,[]))))) (fun r5=>if (((!r5)||(((x6.getD ((s).toNat) (0,(0,(0,(0,(0,(0,false))))))).1)==1))||(((x6.getD ((s).toNat) (0,(0,(0,(0,(0,(0,false))))))).1)==2))=true then K1 ()else jE s (fun y6=>nx y6)))) (cS ((x0.getD ((s).toNat) (([],(0,[])),([],([],(0,[]))))).1) (fun r7=>jn (fun v8=>jn (fun v11=>jn (fun v14=>jn (fun v17=>if v17=true then K1 ()else jE s (fun y20=>nx y20)) (fun J18=>if (v14||(((((x0.getD ((s).toNat) (([],(0,[])),([],([],(0,[]))))).2).1).length:Int) != (((((x0.getD ((s).toNat) (([],(0,[])),([],([],(0,[]))))).1).2).2).length:Int)))=true then J18 true else bU (((x0.getD ((s).toNat) (([],(0,[])),([],([],(0,[]))))).2).1) (fun r19=>J18 r19))) (fun J15=>if v11=true then J15 true else jS ((((x0.getD ((s).toNat) (([],(0,[])),([],([],(0,[]))))).2).2).1) [r2.2] (fun r16=>J15 (!r16)))) (fun J12=>if v8=true then J12 true else jS (((x0.getD ((s).toNat) (([],(0,[])),([],([],(0,[]))))).1).1) r2.1 (fun r13=>J12 (!r13)))) (fun J9=>if (!r7)=true then J9 true else cS (((x0.getD ((s).toNat) (([],(0,[])),([],([],(0,[]))))).2).2) (fun r10=>J9 (!r10))))))))else K0 ()
structure Q5 (x0:List iL)(x1 x3 x4 x5:Int)(x6:List nR)(K0 K1:Unit->Prop)(s:Int):Prop where
 it:Go.Mach.Loop (xG x0 x1 x3 x4 x5 x6 K0 K1) s
structure KD (a0:Q4)(a1:List iL)(Q:Bool->Prop):Prop where
 it:yY a0 (fun r1=>if ((r1.2.2 != 0)||((a1.length:Int) != (a0.2.length:Int)))=true then Q false else Q5 a1 (a1.length:Int) a0.1.1 a0.1.2.1 a0.1.2.2 a0.2 (fun _=>Q true) (fun _=>Q false) 0)
def aCM:Ent:=⟨[2,29,30,31],[sPt 0,sZ dN,sI,sI],[.box [lI,lI,lI,lZ cP] false],fun⟨⟨_,a,b,c,_⟩,⟨⟨d,e,f,g,_⟩,_⟩⟩ k=>Q5 a b d e f g (fun _=>k (.exit 0) ⟨[],[]⟩) (fun _=>k .ret ⟨[(4,vB false)],[]⟩) c⟩
def aBx:Ent:=⟨[2,29,30,31],[sPt 0,sZ dN,sI,sI],[.box [lI,lI,lI,lZ cP] false],fun⟨⟨_,a,b,c,_⟩,⟨⟨d,e,f,g,_⟩,_⟩⟩ k=>jE c (fun y25=>k .normal ⟨[(2,.ptr 0 0),(29,vZ dN a),(30,vI b),(31,vI y25)],[.box [vI d,vI e,vI f,vZ cP g] false]⟩)⟩
def aEA:=o7.put tt 25 Tryz.func25 [4] [] [(58,aCM),(935,aBx)] [.agg [lI,lI,lI,lZ cP],sZ dN] [] [(false,.bool)] (fun x=>KD ((x.1.1,(x.1.2.1,x.1.2.2.1)),x.1.2.2.2.1) x.2.1) ⟨fun _ _ hs ⟨⟨_,a,b,c,_⟩,⟨⟨d,e,f,g,_⟩,_⟩⟩ _ h=>aH hs (fun y=>⟨⟨(),a,b,y,()⟩,⟨⟨d,e,f,g,()⟩,()⟩⟩) c h.it,fun _ _ hs ⟨⟨_,_,_,_,_⟩,⟨⟨_,_,_,_,_⟩,_⟩⟩ _ h=>aR hs h.it,trivial⟩ fun _ _ h=>⟨_,h.it,by kernel_rfl⟩
structure AQ (a0 a1 a2:Int)(Q:Bool->Prop):Prop where
 it:Q ((decide (a1<=a0))&&(decide (a0<=a2)))
def aDW:=aEA.put tt 24 Tryz.func24 [6] [] [] [sI,sI,sI] [] [(false,.bool)] (fun x=>AQ x.1 x.2.1 x.2.2.1) trivial fun _ _ h=>⟨_,h.it,by kernel_rfl⟩
structure uJ (a0 a1 a2:Int)(Q:Int->Prop):Prop where
 it:AQ a0 0 1000000 (fun r1=>jn (fun v2=>jn (fun v5=>if v5=true then Q 0 else Q (u64.wrap (i64.wrap ((i64.wrap ((i64.wrap (a0*1024))+(i64.wrap (a1*16))))+a2)))) (fun J6=>if v2=true then J6 true else AQ a2 0 15 (fun r7=>J6 (!r7)))) (fun J3=>if (!r1)=true then J3 true else AQ a1 0 12 (fun r4=>J3 (!r4))))
def VL:=aDW.put tt 23 Tryz.func23 [6] [] [] [sI,sI,sI] [] [(false,(.int .u64))] (fun x=>uJ x.1 x.2.1 x.2.2.1) trivial fun _ _ h=>⟨_,h.it,by kernel_rfl⟩
structure KU (a0:nR)(a1:iL)(a2:List bL)(Q:(pQ×Bool×Int)->Prop):Prop where
 it:ck (aG (i64.wrap ((a2.length:Int)-1)) a2.length) (if (a0.1==1)=true then G9 (a2.getD ((i64.wrap ((a2.length:Int)-1)).toNat) ([],(0,[]))) a1.1 a1.2.2 (fun r1=>Q (r1.1,true,r1.2))else if (a0.1==2)=true then KV (a2.getD ((i64.wrap ((a2.length:Int)-1)).toNat) ([],(0,[]))) a1.1 a1.2.2 a0.2.2.2.1 a0.2.2.2.2.1 (fun r2=>Q (r2.1,true,r2.2))else if (a0.1==4)=true then aAz (a2.getD ((i64.wrap ((a2.length:Int)-1)).toNat) ([],(0,[]))) a0.2.2.1 a0.2.2.2.1 (fun r3=>Q (r3.1,true,r3.2))else if (a0.1==7)=true then ck (aG a0.2.2.2.2.2.1 a2.length) (UU (a2.getD ((i64.wrap ((a2.length:Int)-1)).toNat) ([],(0,[]))) (a2.getD ((a0.2.2.2.2.2.1).toNat) ([],(0,[]))) (fun r4=>Q (r4.1,true,r4.2)))else Q ((([]:List Int),(0,([]:List Int))),false,0))
def aAe:=VL.put tt 58 Tryz.func58 [6,7,8] [(127,[⟨6,some 0,true,aD⟩]),(128511,[⟨6,some 0,true,aD⟩])] [] [.agg [lI,lI,lI,lI,lI,lI,lB],.agg [lZ aD,lI,lZ aI,lZ aX,lZ aD,lI,lZ aI],sZ aY] [(.p .f .n)] [(true,uF),(false,.bool),(false,aD)] (fun x=>KU (x.1.1,(x.1.2.1,(x.1.2.2.1,(x.1.2.2.2.1,(x.1.2.2.2.2.1,(x.1.2.2.2.2.2.1,x.1.2.2.2.2.2.2.1)))))) ((x.2.1.1,(x.2.1.2.1,x.2.1.2.2.1)),(x.2.1.2.2.2.1,(x.2.1.2.2.2.2.1,(x.2.1.2.2.2.2.2.1,x.2.1.2.2.2.2.2.2.1)))) x.2.2.1) trivial fun _ _ h=>⟨_,h.it,by kernel_rfl⟩
structure AR  (K0:Unit->Prop):Prop where
 it:K0 ()
structure G8 (a0:nR)(a1:iL)(a2:List bL)(a3 a4:Int)(Q:(bL×(List Int)×Int)->Prop):Prop where
 it:KU a0 a1 a2 (fun r1=>if (r1.2.2 != 0)=true then Q ((([]:List Int),(0,([]:List Int))),([]:List Int),r1.2.2)else if r1.2.1=true then DK r1.1 8 a3 a4 (fun r2=>Q (r2.1,([]:List Int),r2.2))else ck (aG (i64.wrap ((a2.length:Int)-1)) a2.length) (if (a0.1==3)=true then aAu (a2.getD ((i64.wrap ((a2.length:Int)-1)).toNat) ([],(0,[]))) a0.2.2.1 a0.2.2.2.1 (fun r3=>Q (r3.1,r3.2.1,r3.2.2))else if (a0.1==5)=true then WS (a2.getD ((i64.wrap ((a2.length:Int)-1)).toNat) ([],(0,[]))) (fun r4=>AR (fun _=>Q (r4.1,([]:List Int),r4.2)))else V6 (a2.getD ((i64.wrap ((a2.length:Int)-1)).toNat) ([],(0,[]))) (fun r6=>AR (fun _=>Q (r6.1,([]:List Int),r6.2)))))
def WP:Ent:=⟨[10,15,18],[sPt 0,sI,sPt 1],[dJ,.box [.cst (.own 2),lI,.cst (.own 3)] false,oQa,.lst true aI false],fun⟨⟨_,a,_⟩,⟨_,⟨_,c,_⟩,d,e,_⟩⟩ k=>AR (fun _=>k .ret ⟨[(10,.ptr 0 0),(11,aL),(12,vI a)],[.box [.own 1,vI c,.own 2] false,.lst true aD d false,.lst true aI e false]⟩)⟩
def YM:=aAe.put tt 30 Tryz.func30 [10,11,12] [] [(63,WP)] [.agg [lI,lI,lI,lI,lI,lI,lB],.agg [lZ aD,lI,lZ aI,lZ aX,lZ aD,lI,lZ aI],sZ aY,.lf (.int .u64),.lf (.int .u64)] [] [(true,aY),(false,(.slc aD)),(false,aD)] (fun x=>G8 (x.1.1,(x.1.2.1,(x.1.2.2.1,(x.1.2.2.2.1,(x.1.2.2.2.2.1,(x.1.2.2.2.2.2.1,x.1.2.2.2.2.2.2.1)))))) ((x.2.1.1,(x.2.1.2.1,x.2.1.2.2.1)),(x.2.1.2.2.2.1,(x.2.1.2.2.2.2.1,(x.2.1.2.2.2.2.2.1,x.2.1.2.2.2.2.2.2.1)))) x.2.2.1 x.2.2.2.1 x.2.2.2.2.1) ⟨fun _ _ hs ⟨⟨_,_,_⟩,⟨_,⟨_,_,_⟩,_,_,_⟩⟩ _ h=>aR hs h.it,trivial⟩ fun _ _ h=>⟨_,h.it,by kernel_rfl⟩
def u5 (x0:List iL)(x1 x2:Int)(x3:List nR)(x4:Int)(K0:((List bL)×List (List Int))->Prop)(K1:(Int×Int)->Prop)(s:Int×(List bL)×List (List Int))(nx:(Int×(List bL)×List (List Int))->Prop):Prop :=
 if (decide (s.1<x4))=true then ck (aG s.1 x3.length) (ck (aG s.1 x0.length) (uJ x2 (i64.wrap (s.1+1)) 0 (fun r13=>G8 (x3.getD ((s.1).toNat) (0,(0,(0,(0,(0,(0,false))))))) (x0.getD ((s.1).toNat) (([],(0,[])),([],([],(0,[]))))) s.2.1 x1 r13 (fun r14=>if (r14.2.2 != 0)=true then K1 (i64.wrap (s.1+1),r14.2.2)else ck ((s.2.1.length+[r14.1].length)*56<=140737488355328) (ck ((s.2.2.length+[r14.2.1].length)*24<=140737488355328) (nx (i64.wrap (s.1+1),s.2.1++[r14.1],s.2.2++[r14.2.1])))))))else K0 (s.2.1,s.2.2)
structure EH (x0:List iL)(x1 x2:Int)(x3:List nR)(x4:Int)(K0:((List bL)×List (List Int))->Prop)(K1:(Int×Int)->Prop)(s:Int×(List bL)×List (List Int)):Prop where
 it:Go.Mach.Loop (u5 x0 x1 x2 x3 x4 K0 K1) s
structure GK (a0:Q4)(a1:List iL)(a2:bL)(a3 a4:Int)(Q:(aLT×Int×Int)->Prop):Prop where
 it:AQ a4 0 1000000 (fun r1=>jn (fun v2=>jn (fun v5=>if v5=true then Q ((([]:List bL),([]:List (List Int))),0,1)else jn (fun v8=>if v8=true then Q ((([]:List bL),([]:List (List Int))),0,2)else bP a2.1 (fun r11=>m9 a2.2.2 (fun r12=>EH a1 a3 a4 a0.2 (a0.2.length:Int) (fun y15=>Q (y15,0,0)) (fun y16=>Q ((([]:List bL),([]:List (List Int))),y16.1,y16.2)) (0,[(r11,(a2.2.1,r12))],[([]:List Int)])))) (fun J9=>if ((a2.1.length:Int) != 4)=true then J9 true else ck (a2.1≠[]/\(0:Int)<=1/\(1:Int)<=(a2.1.length:Int)/\(a2.1.length:Int)<=(a2.1.length:Int)) (jS ((a2.1.take ((a2.1.length:Int)).toNat).drop ((1:Int)).toNat) ([a0.1.1,a0.1.2.1,a0.1.2.2]:List Int) (fun r10=>J9 (!r10))))) (fun J6=>if v2=true then J6 true else cS a2 (fun r7=>J6 (!r7)))) (fun J3=>if (!r1)=true then J3 true else KD a0 a1 (fun r4=>J3 (!r4))))
def ZI:Ent:=⟨[1,3,4,10,13,63,64,65],[sZ dN,.lf (.int .u64),sI,sPt 0,sPt 1,sZ cP,sI,sI],[.box [eD,eD] false,.box [.cst (.own 2),.cst (.own 3)] false,.lst true aY false,.lst true (.slc aD) false],fun⟨⟨a,b,c,_,_,d,e,f,_⟩,⟨_,_,g,i,_⟩⟩ k=>EH a b c d e (fun y17=>k (.exit 1) ⟨[(10,.ptr 0 0),(13,.ptr 1 0)],[.box [aL,aL] false,.box [.own 2,.own 3] false,.lst true aY y17.1 false,.lst true (.slc aD) y17.2 false]⟩) (fun y18=>k .ret ⟨[(10,.ptr 0 0),(11,vI y18.1),(12,vI y18.2)],[.box [aL,aL] false]⟩) (f,g,i)⟩
def aBu:=YM.put tt 10 Tryz.func10 [10,11,12] [] [(250,ZI)] [.agg [lI,lI,lI,lZ cP],sZ dN,.agg cO,.lf (.int .u64),sI] [] [(true,aKx),(false,aD),(false,aD)] (fun x=>GK ((x.1.1,(x.1.2.1,x.1.2.2.1)),x.1.2.2.2.1) x.2.1 (x.2.2.1.1,(x.2.2.1.2.1,x.2.2.1.2.2.1)) x.2.2.2.1 x.2.2.2.2.1) ⟨fun _ _ hs ⟨⟨a,b,c,_,_,d,e,f,_⟩,⟨_,_,g,i,_⟩⟩ _ h=>aH hs (fun y=>⟨⟨a,b,c,(),(),d,e,y.1,()⟩,⟨⟨(),(),()⟩,⟨(),(),()⟩,y.2.1,y.2.2,()⟩⟩) (f,g,i) h.it,trivial⟩ fun _ _ h=>⟨_,h.it,by kernel_rfl⟩
structure DB (a0:Int)(Q:Q4->Prop):Prop where
 it:Q ((1,(1,2)),[(6,(0,(0,(0,(0,(0,false)))))),(1,(a0,(0,(0,(0,(0,false))))))])
def NX:=aBu.put tt 22 Tryz.func22 [2] [] [] [sI] [] [(true,aIl)] (fun x=>DB x.1) trivial fun _ _ h=>⟨_,h.it,by kernel_rfl⟩
structure PI  (Q:Bool->Prop):Prop where
 it:DB 1 (fun r1=>GK r1 [((([]:List Int),(0,([]:List Int))),(([]:List Int),(([]:List Int),(0,([]:List Int))))),(([1,2],(0,[3,4])),([0,0],([1],(0,[5]))))] ([1,1,1,2],(0,[1,2])) 1 0 (fun r2=>jn (fun v3=>jn (fun v5=>jn (fun v7=>Q v7) (fun J8=>if v5=true then uJ 2 3 4 (fun r9=>J8 (r9==2100))else J8 false)) (fun J6=>if v3=true then ck (aG 2 r2.1.1.length) (ck (aG 0 (((r2.1.1.getD 2 ([],(0,[]))).2).2).length) (J6 (((((r2.1.1.getD 2 ([],(0,[]))).2).2).getD 0 0)==16)))else J6 false)) (fun J4=>if ((r2.2.2==0)&&((r2.1.1.length:Int)==3))=true then ck (aG 2 r2.1.1.length) (J4 (((((r2.1.1.getD 2 ([],(0,[]))).2).2).length:Int)==1))else J4 false)))
def LR:=NX.put tt 9 Tryz.func9 [0] [] [] [] [] [(false,.bool)] (fun _=>PI) trivial fun _ _ h=>⟨_,h.it,by kernel_rfl⟩
def uL (x1:List Int)(x2:Int)(K0 K1:Unit->Prop)(s:Int×Int)(nx:(Int×Int)->Prop):Prop :=
 if (decide (s.2<x2))=true then ck (aG s.2 x1.length) (jn (fun v1=>if v1=true then K1 ()else nx (i64.wrap (s.1*(x1.getD ((s.2).toNat) 0)),i64.wrap (s.2+1))) (fun J2=>if ((decide ((x1.getD ((s.2).toNat) 0)<1))||(decide (4096<(x1.getD ((s.2).toNat) 0))))=true then J2 true else ck ((x1.getD ((s.2).toNat) 0)≠(0:Int)) (J2 (decide ((i64.wrap (((8192:Int)).tdiv (x1.getD ((s.2).toNat) 0)))<s.1)))))else K0 ()
structure wR (x1:List Int)(x2:Int)(K0 K1:Unit->Prop)(s:Int×Int):Prop where
 it:Go.Mach.Loop (uL x1 x2 K0 K1) s
structure bR (a0:List Int)(Q:Bool->Prop):Prop where
 it:if ((decide ((a0.length:Int)<1))||(decide (4<(a0.length:Int))))=true then Q false else wR a0 (a0.length:Int) (fun _=>Q true) (fun _=>Q false) (1,0)
def IF:Ent:=⟨[3,14,15,16],[sI,sZ aD,sI,sI],[],fun⟨⟨a,b,c,d,_⟩,_⟩ k=>wR b c (fun _=>k (.exit 0) ⟨[],[]⟩) (fun _=>k .ret ⟨[(2,vB false)],[]⟩) (a,d)⟩
def IR:=LR.put tt 47 Tryz.func47 [2] [] [(122,IF)] [sZ aD] [] [(false,.bool)] (fun x=>bR x.1) ⟨fun _ _ hs ⟨⟨a,b,c,d,_⟩,_⟩ _ h=>aH hs (fun y=>⟨⟨y.1,b,c,y.2,()⟩,()⟩) (a,d) h.it,trivial⟩ fun _ _ h=>⟨_,h.it,by kernel_rfl⟩
def yB (x1:List Int)(x2:Int)(K0:Int->Prop)(s:Int×Int)(nx:(Int×Int)->Prop):Prop :=
 if (decide (s.2<x2))=true then ck (aG s.2 x1.length) (nx (i64.wrap (s.1*(x1.getD ((s.2).toNat) 0)),i64.wrap (s.2+1)))else K0 s.1
structure zZ (x1:List Int)(x2:Int)(K0:Int->Prop)(s:Int×Int):Prop where
 it:Go.Mach.Loop (yB x1 x2 K0) s
structure dI (a0:List Int)(Q:Int->Prop):Prop where
 it:bR a0 (fun r1=>if (!r1)=true then Q 0 else zZ a0 (a0.length:Int) (fun y2=>Q y2) (1,0))
def NN:Ent:=⟨[3,9,10,11],[sI,sZ aD,sI,sI],[],fun⟨⟨a,b,c,d,_⟩,_⟩ k=>zZ b c (fun y3=>k (.exit 0) ⟨[(3,vI y3)],[]⟩) (a,d)⟩
def OK:=IR.put tt 40 Tryz.func40 [2] [] [(122,NN)] [sZ aD] [] [(false,aD)] (fun x=>dI x.1) ⟨fun _ _ hs ⟨⟨a,b,c,d,_⟩,_⟩ _ h=>aH hs (fun y=>⟨⟨y.1,b,c,y.2,()⟩,()⟩) (a,d) h.it,trivial⟩ fun _ _ h=>⟨_,h.it,by kernel_rfl⟩
structure cM (a0 a1 a2:Int)(Q:Bool->Prop):Prop where
 it:Q ((decide (a1<=a0))&&(decide (a0<=a2)))
def QV:=OK.put tt 127 Tryz.func127 [6] [] [] [sI,sI,sI] [] [(false,.bool)] (fun x=>cM x.1 x.2.1 x.2.2.1) trivial fun _ _ h=>⟨_,h.it,by kernel_rfl⟩
structure tZ (a0:aZ)(Q:Bool->Prop):Prop where
 it:cM a0.1 1 8 (fun r1=>jn (fun v2=>jn (fun v5=>Q v5) (fun J6=>if v2=true then cM a0.2.2 1 16 (fun r7=>J6 r7)else J6 false)) (fun J3=>if r1=true then cM a0.2.1 1 16 (fun r4=>J3 r4)else J3 false))
def L9:=QV.put tt 126 Tryz.func126 [2] [] [] [.agg [lI,lI,lI]] [] [(false,.bool)] (fun x=>tZ (x.1.1,(x.1.2.1,x.1.2.2.1))) trivial fun _ _ h=>⟨_,h.it,by kernel_rfl⟩
structure eB  (K0:Unit->Prop):Prop where
 it:K0 ()
structure nT (x0:Int)(x1:Bool)(x2:Int)(x3:Bool)(x9 x16:Int)(K0:(Bool×Int)->Prop)(K1:Unit->Prop):Prop where
 it:if x3=true then K0 (x1,x16)else if (x2==7)=true then cM x9 0 (i64.wrap (x0-1)) (fun r18=>K0 (r18,x9))else K1 ()
structure jQ (x0:Int)(x1:Bool)(x2:Int)(x3:Bool)(x6 x7 x9 x13 x14 x16:Int)(K0:(Bool×Int×Int×Int)->Prop)(K1:Unit->Prop):Prop where
 it:if x3=true then cM x6 1 5 (fun r14=>jn (fun v15=>K0 (v15,x6,x7,x16)) (fun J16=>if r14=true then cM x7 1 4 (fun r17=>J16 r17)else J16 false))else if (x2==5)=true then nT x0 x1 x2 (x2==5) x9 x16 (fun y18=>K0 (y18.1,x13,x14,y18.2)) (fun _=>K1 ())else nT x0 x1 x2 (x2==6) x9 x16 (fun y20=>K0 (y20.1,x13,x14,y20.2)) (fun _=>K1 ())
structure p5 (a0:nR)(a1:Int)(Q:Bool->Prop):Prop where
 it:if (a0.1==1)=true then cM a0.2.1 1 4096 (fun r1=>eB (fun _=>Q (r1&&((a0.1==a0.1)&&((a0.2.1==a0.2.1)&&((a0.2.2.1==0)&&((a0.2.2.2.1==0)&&((a0.2.2.2.2.1==0)&&((a0.2.2.2.2.2.1==0)&&((a0.2.2.2.2.2.2==a0.2.2.2.2.2.2)&&(true)))))))))))else if (a0.1==2)=true then cM a0.2.1 1 8 (fun r3=>jn (fun v4=>jn (fun v7=>jn (fun v10=>eB (fun _=>Q (v10&&((a0.1==a0.1)&&((a0.2.1==a0.2.1)&&((a0.2.2.1==a0.2.2.1)&&((a0.2.2.2.1==a0.2.2.2.1)&&((a0.2.2.2.2.1==a0.2.2.2.2.1)&&((a0.2.2.2.2.2.1==0)&&((a0.2.2.2.2.2.2==a0.2.2.2.2.2.2)&&(true))))))))))) (fun J11=>if v7=true then cM a0.2.2.2.2.1 0 (i64.wrap (a0.2.2.1-1)) (fun r12=>J11 r12)else J11 false)) (fun J8=>if v4=true then cM a0.2.2.2.1 1 4 (fun r9=>J8 r9)else J8 false)) (fun J5=>if r3=true then cM a0.2.2.1 1 5 (fun r6=>J5 r6)else J5 false))else if (a0.1==3)=true then jQ a1 true a0.1 (a0.1==3) a0.2.2.1 a0.2.2.2.1 a0.2.2.2.2.2.1 0 0 0 (fun y22=>eB (fun _=>Q (y22.1&&((a0.1==a0.1)&&((a0.2.1==0)&&((a0.2.2.1==y22.2.1)&&((a0.2.2.2.1==y22.2.2.1)&&((a0.2.2.2.2.1==0)&&((a0.2.2.2.2.2.1==y22.2.2.2)&&((a0.2.2.2.2.2.2==false)&&(true))))))))))) (fun _=>Q false)else jQ a1 true a0.1 (a0.1==4) a0.2.2.1 a0.2.2.2.1 a0.2.2.2.2.2.1 0 0 0 (fun y25=>eB (fun _=>Q (y25.1&&((a0.1==a0.1)&&((a0.2.1==0)&&((a0.2.2.1==y25.2.1)&&((a0.2.2.2.1==y25.2.2.1)&&((a0.2.2.2.2.1==0)&&((a0.2.2.2.2.2.1==y25.2.2.2)&&((a0.2.2.2.2.2.2==false)&&(true))))))))))) (fun _=>Q false)
def FB:Ent:=⟨[2,5,6],[sPt 0,sPt 1,sB],[.box [lI,lI,lI,lI,lI,lI,lB] false,.box [lI,lI,lI,lI,lI,lI,lB] false],fun⟨⟨_,_,a,_⟩,⟨⟨b,c,d,e,f,g,i,_⟩,⟨j,l,m,n,o,p,q,_⟩,_⟩⟩ k=>eB (fun _=>k .ret ⟨[(4,vB (a&&((b==j)&&((c==l)&&((d==m)&&((e==n)&&((f==o)&&((g==p)&&((i==q)&&(true))))))))))],[]⟩)⟩
def FD:Ent:=⟨[1,2,5,6,11,61],[sI,sPt 0,sPt 1,sB,sI,sB],[.box [lI,lI,lI,lI,lI,lI,lB] false,.box [lI,lI,lI,lI,lI,lI,lB] false],fun⟨⟨a,_,_,b,c,d,_⟩,⟨⟨e,f,g,i,j,l,m,_⟩,⟨n,o,p,q,t,u,w,_⟩,_⟩⟩ k=>jQ a b c d g i l p q u (fun y29=>k .normal ⟨[(2,.ptr 0 0),(5,.ptr 1 0),(6,vB y29.1)],[.box [vI e,vI f,vI g,vI i,vI j,vI l,vB m] false,.box [vI n,vI o,vI y29.2.1,vI y29.2.2.1,vI t,vI y29.2.2.2,vB w] false]⟩) (fun _=>k .ret ⟨[(4,vB false)],[]⟩)⟩
def FC:Ent:=⟨[1,2,5,6,11,78],[sI,sPt 0,sPt 1,sB,sI,sB],[.box [lI,lI,lI,lI,lI,lI,lB] false,.box [lI,lI,lI,lI,lI,lI,lB] false],fun⟨⟨a,_,_,b,c,d,_⟩,⟨⟨e,f,g,i,j,l,m,_⟩,⟨n,o,p,q,t,u,w,_⟩,_⟩⟩ k=>nT a b c d l u (fun y31=>k .normal ⟨[(2,.ptr 0 0),(5,.ptr 1 0),(6,vB y31.1)],[.box [vI e,vI f,vI g,vI i,vI j,vI l,vB m] false,.box [vI n,vI o,vI p,vI q,vI t,vI y31.2,vB w] false]⟩) (fun _=>k .ret ⟨[(4,vB false)],[]⟩)⟩
def F2:=L9.put tt 128 Tryz.func128 [4] [] [(31,FB),(3935,FD),(15743,FC)] [.agg [lI,lI,lI,lI,lI,lI,lB],sI] [] [(false,.bool)] (fun x=>p5 (x.1.1,(x.1.2.1,(x.1.2.2.1,(x.1.2.2.2.1,(x.1.2.2.2.2.1,(x.1.2.2.2.2.2.1,x.1.2.2.2.2.2.2.1)))))) x.2.1) ⟨fun _ _ hs ⟨⟨_,_,_,_⟩,⟨⟨_,_,_,_,_,_,_,_⟩,⟨_,_,_,_,_,_,_,_⟩,_⟩⟩ _ h=>aR hs h.it,fun _ _ hs ⟨⟨_,_,_,_,_,_,_⟩,⟨⟨_,_,_,_,_,_,_,_⟩,⟨_,_,_,_,_,_,_,_⟩,_⟩⟩ _ h=>aR hs h.it,fun _ _ hs ⟨⟨_,_,_,_,_,_,_⟩,⟨⟨_,_,_,_,_,_,_,_⟩,⟨_,_,_,_,_,_,_,_⟩,_⟩⟩ _ h=>aR hs h.it,trivial⟩ fun _ _ h=>⟨_,h.it,by kernel_rfl⟩
def iC (x0:List nR)(x1:Int)(K0 K1:Unit->Prop)(s:Int)(nx:Int->Prop):Prop :=
 if (decide (s<x1))=true then ck (aG s x0.length) (p5 (x0.getD ((s).toNat) (0,(0,(0,(0,(0,(0,false))))))) s (fun r5=>if (!r5)=true then K1 ()else nx (i64.wrap (s+1))))else K0 ()
structure tY (x0:List nR)(x1:Int)(K0 K1:Unit->Prop)(s:Int):Prop where
 it:Go.Mach.Loop (iC x0 x1 K0 K1) s
structure qB (a0:Q4)(Q:Bool->Prop):Prop where
 it:tZ a0.1 (fun r1=>jn (fun v2=>if v2=true then Q false else tY a0.2 (a0.2.length:Int) (fun _=>Q true) (fun _=>Q false) 0) (fun J3=>if (!r1)=true then J3 true else cM (a0.2.length:Int) 1 12 (fun r4=>J3 (!r4))))
def EO:Ent:=⟨[17,18,19],[sZ cP,sI,sI],[],fun⟨⟨a,b,c,_⟩,_⟩ k=>tY a b (fun _=>k (.exit 0) ⟨[],[]⟩) (fun _=>k .ret ⟨[(2,vB false)],[]⟩) c⟩
def F5:=F2.put tt 77 Tryz.func77 [2] [] [(58,EO)] [.agg [lI,lI,lI,lZ cP]] [] [(false,.bool)] (fun x=>qB ((x.1.1,(x.1.2.1,x.1.2.2.1)),x.1.2.2.2.1)) ⟨fun _ _ hs ⟨⟨a,b,c,_⟩,_⟩ _ h=>aH hs (fun y=>⟨⟨a,b,y,()⟩,()⟩) c h.it,trivial⟩ fun _ _ h=>⟨_,h.it,by kernel_rfl⟩
structure fN (a0 a1 a2 a3:Int)(Q:Int->Prop):Prop where
 it:if (((((((((decide (a0<1))||(decide (16<a0)))||(decide (a1<1)))||(decide (5<a1)))||(decide (a2<1)))||(decide (4<a2)))||(decide (a3<0)))||(decide (a1<=a3)))||(decide ((i64.wrap (a0+(i64.wrap (2*a3))))<a1)))=true then Q 0 else ck (a2≠(0:Int)) (Q (i64.wrap ((i64.wrap ((i64.wrap ((i64.wrap (a0+(i64.wrap (2*a3))))-a1)).tdiv a2))+1)))
def QZ:=F5.put tt 174 Tryz.func174 [8] [] [] [sI,sI,sI,sI] [] [(false,aD)] (fun x=>fN x.1 x.2.1 x.2.2.1 x.2.2.2.1) trivial fun _ _ h=>⟨_,h.it,by kernel_rfl⟩
structure eJ (a0 a1 a2 a3 a4:Int)(Q:(Int×Int)->Prop):Prop where
 it:fN a0 a2 a3 a4 (fun r1=>fN a1 a2 a3 a4 (fun r2=>Q (r1,r2)))
def LZ:=QZ.put tt 115 Tryz.func115 [10,11] [] [] [sI,sI,sI,sI,sI] [] [(false,aD),(false,aD)] (fun x=>eJ x.1 x.2.1 x.2.2.1 x.2.2.2.1 x.2.2.2.2.1) trivial fun _ _ h=>⟨_,h.it,by kernel_rfl⟩
def i9 (x0 x1:List Int)(x2:Int)(K0 K1:Unit->Prop)(s:Int)(nx:Int->Prop):Prop :=
 if (decide (s<x2))=true then ck (aG s x0.length) (ck (aG s x1.length) (if ((x0.getD ((s).toNat) 0) != (x1.getD ((s).toNat) 0))=true then K1 ()else nx (i64.wrap (s+1))))else K0 ()
structure vC (x0 x1:List Int)(x2:Int)(K0 K1:Unit->Prop)(s:Int):Prop where
 it:Go.Mach.Loop (i9 x0 x1 x2 K0 K1) s
structure bI (a0 a1:List Int)(Q:Bool->Prop):Prop where
 it:if ((a0.length:Int) != (a1.length:Int))=true then Q false else vC a0 a1 (a0.length:Int) (fun _=>Q true) (fun _=>Q false) 0
def FZ:Ent:=⟨[0,1,12,13],[sZ aD,sZ aD,sI,sI],[],fun⟨⟨a,b,c,d,_⟩,_⟩ k=>vC a b c (fun _=>k (.exit 0) ⟨[],[]⟩) (fun _=>k .ret ⟨[(4,vB false)],[]⟩) d⟩
def HL:=LZ.put tt 20 Tryz.func20 [4] [] [(58,FZ)] [sZ aD,sZ aD] [] [(false,.bool)] (fun x=>bI x.1 x.2.1) ⟨fun _ _ hs ⟨⟨a,b,c,d,_⟩,_⟩ _ h=>aH hs (fun y=>⟨⟨a,b,c,y,()⟩,()⟩) d h.it,trivial⟩ fun _ _ h=>⟨_,h.it,by kernel_rfl⟩
structure dK (x0 x1:Int)(K0:Bool->Prop):Prop where
 it:K0 ((decide (0<x0))&&(decide (0<x1)))
def kE (x1:List Int)(x2:Int)(K0:Int->Prop)(s:Int×Int)(nx:(Int×Int)->Prop):Prop :=
 if (decide (s.2<x2))=true then ck (aG s.2 x1.length) (nx (i64.wrap (s.1*(x1.getD ((s.2).toNat) 0)),i64.wrap (s.2+1)))else K0 s.1
structure iO (x1:List Int)(x2:Int)(K0:Int->Prop)(s:Int×Int):Prop where
 it:Go.Mach.Loop (kE x1 x2 K0) s
structure uH (a0:nR)(a1:List Int)(a2:List (List Int))(Q:((List Int)×Bool)->Prop):Prop where
 it:if (a0.1==1)=true then Q ([a0.2.1],(a1.length:Int)==1)else if (a0.1==2)=true then if (a0.1==2)=true then if ((a1.length:Int) != 3)=true then Q (([]:List Int),false)else ck (aG 1 a1.length) (ck (aG 2 a1.length) (eJ (a1.getD 1 0) (a1.getD 2 0) a0.2.2.1 a0.2.2.2.1 a0.2.2.2.2.1 (fun r1=>ck (aG 0 a1.length) (if (a0.1==2)=true then dK r1.1 r1.2 (fun y2=>Q ([a0.2.1,r1.1,r1.2],y2))else dK r1.1 r1.2 (fun y3=>Q ([(a1.getD 0 0),r1.1,r1.2],y3))))))else if (a0.1==6)=true then iO a1 (a1.length:Int) (fun y4=>Q ([y4],true)) (1,0)else if (a0.1==7)=true then ck (a1.length*8<=140737488355328) (ck (aG a0.2.2.2.2.2.1 a2.length) (bI a1 (a2.getD ((a0.2.2.2.2.2.1).toNat) []) (fun r5=>Q (a1,r5))))else ck (a1.length*8<=140737488355328) (Q (a1,true))else if (a0.1==3)=true then if (a0.1==3)=true then if ((a1.length:Int) != 3)=true then Q (([]:List Int),false)else ck (aG 1 a1.length) (ck (aG 2 a1.length) (eJ (a1.getD 1 0) (a1.getD 2 0) a0.2.2.1 a0.2.2.2.1 a0.2.2.2.2.1 (fun r6=>ck (aG 0 a1.length) (if (a0.1==2)=true then dK r6.1 r6.2 (fun y7=>Q ([a0.2.1,r6.1,r6.2],y7))else dK r6.1 r6.2 (fun y8=>Q ([(a1.getD 0 0),r6.1,r6.2],y8))))))else if (a0.1==6)=true then iO a1 (a1.length:Int) (fun y9=>Q ([y9],true)) (1,0)else if (a0.1==7)=true then ck (a1.length*8<=140737488355328) (ck (aG a0.2.2.2.2.2.1 a2.length) (bI a1 (a2.getD ((a0.2.2.2.2.2.1).toNat) []) (fun r10=>Q (a1,r10))))else ck (a1.length*8<=140737488355328) (Q (a1,true))else if (a0.1==4)=true then if ((a1.length:Int) != 3)=true then Q (([]:List Int),false)else ck (aG 1 a1.length) (ck (aG 2 a1.length) (eJ (a1.getD 1 0) (a1.getD 2 0) a0.2.2.1 a0.2.2.2.1 a0.2.2.2.2.1 (fun r11=>ck (aG 0 a1.length) (if (a0.1==2)=true then dK r11.1 r11.2 (fun y12=>Q ([a0.2.1,r11.1,r11.2],y12))else dK r11.1 r11.2 (fun y13=>Q ([(a1.getD 0 0),r11.1,r11.2],y13))))))else if (a0.1==6)=true then iO a1 (a1.length:Int) (fun y14=>Q ([y14],true)) (1,0)else if (a0.1==7)=true then ck (a1.length*8<=140737488355328) (ck (aG a0.2.2.2.2.2.1 a2.length) (bI a1 (a2.getD ((a0.2.2.2.2.2.1).toNat) []) (fun r15=>Q (a1,r15))))else ck (a1.length*8<=140737488355328) (Q (a1,true))
def I8:Ent:=⟨[8,9,10],[sI,sI,sI],[],fun⟨⟨a,b,c,_⟩,_⟩ k=>dK a b (fun y16=>k .ret ⟨[(6,.own 0),(7,vB y16)],[.lst true aD [c,a,b] false]⟩)⟩
def JA:Ent:=⟨[11,67,68,69],[sI,sZ aD,sI,sI],[],fun⟨⟨a,b,c,d,_⟩,_⟩ k=>iO b c (fun y17=>k (.exit 1) ⟨[(11,vI y17)],[]⟩) (a,d)⟩
def LK:=HL.put tt 78 Tryz.func78 [6,7] [] [(6895,I8),(27626,JA)] [.agg [lI,lI,lI,lI,lI,lI,lB],sZ aD,sZ (.slc aD)] [] [(false,(.slc aD)),(false,.bool)] (fun x=>uH (x.1.1,(x.1.2.1,(x.1.2.2.1,(x.1.2.2.2.1,(x.1.2.2.2.2.1,(x.1.2.2.2.2.2.1,x.1.2.2.2.2.2.2.1)))))) x.2.1 x.2.2.1) ⟨fun _ _ hs ⟨⟨_,_,_,_⟩,_⟩ _ h=>aR hs h.it,fun _ _ hs ⟨⟨a,b,c,d,_⟩,_⟩ _ h=>aH hs (fun y=>⟨⟨y.1,b,c,y.2,()⟩,()⟩) (a,d) h.it,trivial⟩ fun _ _ h=>⟨_,h.it,by kernel_rfl⟩
def jI (x0:List nR)(x1:Int)(K0:(List (List Int))->Prop)(K1:(Int×Int)->Prop)(s:Int×List (List Int))(nx:(Int×List (List Int))->Prop):Prop :=
 if (decide (s.1<x1))=true then ck (aG s.1 x0.length) (ck (aG s.1 s.2.length) (uH (x0.getD ((s.1).toNat) (0,(0,(0,(0,(0,(0,false))))))) (s.2.getD ((s.1).toNat) []) s.2 (fun r2=>if (!r2.2)=true then K1 (i64.wrap (s.1+1),2)else bR r2.1 (fun r3=>if (!r3)=true then K1 (i64.wrap (s.1+1),1)else ck ((s.2.length+[r2.1].length)*24<=140737488355328) (nx (i64.wrap (s.1+1),s.2++[r2.1]))))))else K0 s.2
structure wY (x0:List nR)(x1:Int)(K0:(List (List Int))->Prop)(K1:(Int×Int)->Prop)(s:Int×List (List Int)):Prop where
 it:Go.Mach.Loop (jI x0 x1 K0 K1) s
structure fF (a0:Q4)(Q:((List (List Int))×Int×Int)->Prop):Prop where
 it:qB a0 (fun r1=>if (!r1)=true then Q (([]:List (List Int)),0,1)else wY a0.2 (a0.2.length:Int) (fun y4=>Q (y4,0,0)) (fun y5=>Q (([]:List (List Int)),y5.1,y5.2)) (0,[[a0.1.1,a0.1.2.1,a0.1.2.2]]))
def IQ:Ent:=⟨[5,25,26,27],[sC (.own 0),sZ cP,sI,sI],[.lst true (.slc aD) false],fun⟨⟨_,a,b,c,_⟩,⟨d,_⟩⟩ k=>wY a b (fun y6=>k (.exit 0) ⟨[(5,.own 0)],[.lst true (.slc aD) y6 false]⟩) (fun y7=>k .ret ⟨[(2,aL),(3,vI y7.1),(4,vI y7.2)],[]⟩) (c,d)⟩
def I2:=LK.put tt 39 Tryz.func39 [2,3,4] [] [(122,IQ)] [.agg [lI,lI,lI,lZ cP]] [] [(false,(.slc (.slc aD))),(false,aD),(false,aD)] (fun x=>fF ((x.1.1,(x.1.2.1,x.1.2.2.1)),x.1.2.2.2.1)) ⟨fun _ _ hs ⟨⟨_,a,b,c,_⟩,⟨d,_⟩⟩ _ h=>aH hs (fun y=>⟨⟨(),a,b,y.1,()⟩,⟨y.2,()⟩⟩) (c,d) h.it,trivial⟩ fun _ _ h=>⟨_,h.it,by kernel_rfl⟩
structure pS (a0:nR)(a1:List Int)(Q:((List Int)×Int)->Prop):Prop where
 it:if (a0.1==1)=true then ck (aG 0 a1.length) (Q ([a0.2.1,a1.getD 0 0],a0.2.1))else if (a0.1==2)=true then ck (aG 0 a1.length) (Q ([a0.2.1,a1.getD 0 0,a0.2.2.1,a0.2.2.1],a0.2.1))else Q (([]:List Int),0)
def NT:=I2.put tt 46 Tryz.func46 [4,5] [] [] [.agg [lI,lI,lI,lI,lI,lI,lB],sZ aD] [] [(false,(.slc aD)),(false,aD)] (fun x=>pS (x.1.1,(x.1.2.1,(x.1.2.2.1,(x.1.2.2.2.1,(x.1.2.2.2.2.1,(x.1.2.2.2.2.2.1,x.1.2.2.2.2.2.2.1)))))) x.2.1) trivial fun _ _ h=>⟨_,h.it,by kernel_rfl⟩
structure pW (a0:Q4)(a1:Int)(Q:((List Int)×Int)->Prop):Prop where
 it:fF a0 (fun r1=>if (((r1.2.2 != 0)||(decide (a1<1)))||(decide ((a0.2.length:Int)<a1)))=true then Q (([]:List Int),0)else ck (aG (i64.wrap (a1-1)) a0.2.length) (ck (aG (i64.wrap (a1-1)) r1.1.length) (pS (a0.2.getD ((i64.wrap (a1-1)).toNat) (0,(0,(0,(0,(0,(0,false))))))) (r1.1.getD ((i64.wrap (a1-1)).toNat) []) (fun r2=>bR r2.1 (fun r3=>if (!r3)=true then Q (([]:List Int),0)else Q (r2.1,r2.2))))))
def OC:=NT.put tt 19 Tryz.func19 [4,5] [] [] [.agg [lI,lI,lI,lZ cP],sI] [] [(false,(.slc aD)),(false,aD)] (fun x=>pW ((x.1.1,(x.1.2.1,x.1.2.2.1)),x.1.2.2.2.1) x.2.1) trivial fun _ _ h=>⟨_,h.it,by kernel_rfl⟩
structure gS (a0:Int)(Q:Int->Prop):Prop where
 it:ck ((0:Int)<=30) (ck ((0:Int)<=27) (ck ((0:Int)<=31) (Q (u64.wrap ((BitVec.ofInt (u64).bits (u64.wrap ((u64.wrap ((BitVec.ofInt (u64).bits (u64.wrap ((u64.wrap ((BitVec.ofInt (u64).bits (u64.wrap (a0+11400714819323198485)) ^^^ BitVec.ofInt (u64).bits ((u64.wrap (a0+11400714819323198485)).fdiv (2 ^ (min ((30:Int)).toNat (u64).bits)))).toNat:Nat))*13787848793156543929)) ^^^ BitVec.ofInt (u64).bits ((u64.wrap ((u64.wrap ((BitVec.ofInt (u64).bits (u64.wrap (a0+11400714819323198485)) ^^^ BitVec.ofInt (u64).bits ((u64.wrap (a0+11400714819323198485)).fdiv (2 ^ (min ((30:Int)).toNat (u64).bits)))).toNat:Nat))*13787848793156543929)).fdiv (2 ^ (min ((27:Int)).toNat (u64).bits)))).toNat:Nat))*10723151780598845931)) ^^^ BitVec.ofInt (u64).bits ((u64.wrap ((u64.wrap ((BitVec.ofInt (u64).bits (u64.wrap ((u64.wrap ((BitVec.ofInt (u64).bits (u64.wrap (a0+11400714819323198485)) ^^^ BitVec.ofInt (u64).bits ((u64.wrap (a0+11400714819323198485)).fdiv (2 ^ (min ((30:Int)).toNat (u64).bits)))).toNat:Nat))*13787848793156543929)) ^^^ BitVec.ofInt (u64).bits ((u64.wrap ((u64.wrap ((BitVec.ofInt (u64).bits (u64.wrap (a0+11400714819323198485)) ^^^ BitVec.ofInt (u64).bits ((u64.wrap (a0+11400714819323198485)).fdiv (2 ^ (min ((30:Int)).toNat (u64).bits)))).toNat:Nat))*13787848793156543929)).fdiv (2 ^ (min ((27:Int)).toNat (u64).bits)))).toNat:Nat))*10723151780598845931)).fdiv (2 ^ (min ((31:Int)).toNat (u64).bits)))).toNat:Nat)))))
def QY:=OC.put tt 125 Tryz.func125 [2] [] [] [.lf (.int .u64)] [] [(false,(.int .u64))] (fun x=>gS x.1) trivial fun _ _ h=>⟨_,h.it,by kernel_rfl⟩
structure qE (a0 a1 a2:Int)(Q:Int->Prop):Prop where
 it:gS a0 (fun r1=>gS (u64.wrap ((BitVec.ofInt (u64).bits r1 ^^^ BitVec.ofInt (u64).bits a1).toNat:Nat)) (fun r2=>gS (u64.wrap ((BitVec.ofInt (u64).bits r2 ^^^ BitVec.ofInt (u64).bits a2).toNat:Nat)) (fun r3=>Q r3)))
def S8:=QY.put tt 76 Tryz.func76 [6] [] [] [.lf (.int .u64),.lf (.int .u64),.lf (.int .u64)] [] [(false,(.int .u64))] (fun x=>qE x.1 x.2.1 x.2.2.1) trivial fun _ _ h=>⟨_,h.it,by kernel_rfl⟩
def kX (x0 x1:Int)(K0:Unit->Prop)(K1:Int->Prop)(s:Int×Int)(nx:(Int×Int)->Prop):Prop :=
 if (decide (s.2<100))=true then if (decide (x1<=s.1))=true then ck ((u64.wrap x0)≠(0:Int)) (K1 (i64.wrap ((s.1).tmod (u64.wrap x0))))else gS s.1 (fun r2=>nx (r2,i64.wrap (s.2+1)))else K0 ()
structure zB (x0 x1:Int)(K0:Unit->Prop)(K1:Int->Prop)(s:Int×Int):Prop where
 it:Go.Mach.Loop (kX x0 x1 K0 K1) s
structure wI (a0 a1 a2 a3:Int)(Q:Int->Prop):Prop where
 it:if ((decide (a3<1))||(decide (2147483648<a3)))=true then Q 0 else ck ((u64.wrap a3)≠(0:Int)) (ck ((u64.wrap a3)≠(0:Int)) (qE a0 a1 a2 (fun r1=>zB a3 ((u64.wrap ((((18446744073709551615:Int)).tmod (u64.wrap a3))+1)).tmod (u64.wrap a3)) (fun _=>Q 0) (fun y4=>Q y4) (r1,0))))
def KT:Ent:=⟨[3,9,10,28],[sI,.lf (.int .u64),.lf (.int .u64),sI],[],fun⟨⟨a,b,c,d,_⟩,_⟩ k=>zB a b (fun _=>k (.exit 0) ⟨[],[]⟩) (fun y6=>k .ret ⟨[(8,vI y6)],[]⟩) (c,d)⟩
def NP:=S8.put tt 79 Tryz.func79 [8] [] [(250,KT)] [.lf (.int .u64),.lf (.int .u64),.lf (.int .u64),sI] [] [(false,aD)] (fun x=>wI x.1 x.2.1 x.2.2.1 x.2.2.2.1) ⟨fun _ _ hs ⟨⟨a,b,c,d,_⟩,_⟩ _ h=>aH hs (fun y=>⟨⟨a,b,y.1,y.2,()⟩,()⟩) (c,d) h.it,trivial⟩ fun _ _ h=>⟨_,h.it,by kernel_rfl⟩
structure nA (x3:Int)(K0:Int->Prop):Prop where
 it:K0 (i64.wrap (x3+1))
def lK (x0 x1 x5:Int)(K0:(List Int)->Prop)(s:Int×List Int)(nx:(Int×List Int)->Prop):Prop :=
 if (decide (s.1<x5))=true then wI x0 (u64.wrap (i64.wrap (x1+1))) (u64.wrap s.1) 63 (fun r13=>ck ((s.2.length+[i8.wrap (i64.wrap (r13-31))].length)*1<=140737488355328) (nx (i64.wrap (s.1+1),s.2++[i8.wrap (i64.wrap (r13-31))])))else K0 s.2
structure yU (x0 x1 x5:Int)(K0:(List Int)->Prop)(s:Int×List Int):Prop where
 it:Go.Mach.Loop (lK x0 x1 x5 K0) s
structure zI (x0 x1:Int)(x6:List iL)(x7 x8:Int)(x9 x10 x11 x12:List Int)(K0:(List iL)->Prop):Prop where
 it:yU x0 x1 (x10.length:Int) (fun y13=>ck ((x6.length+[((x9,(x7,y13)),(x10,(x11,(x8,x12))))].length)*136<=140737488355328) (K0 (x6++[((x9,(x7,y13)),(x10,(x11,(x8,x12))))]))) (0,([]:List Int))
def lG (x0:Int)(x1:List nR)(x2:Int)(x4:List (List Int))(K0:(List iL)->Prop)(K1:Unit->Prop)(s:Int×List iL)(nx:(Int×List iL)->Prop):Prop :=
 if (decide (s.1<x2))=true then ck (aG s.1 x1.length) (ck (aG s.1 x4.length) (pS (x1.getD ((s.1).toNat) (0,(0,(0,(0,(0,(0,false))))))) (x4.getD ((s.1).toNat) []) (fun r9=>if ((r9.1.length:Int)==0)=true then ck ((s.2.length+[((([]:List Int),(0,([]:List Int))),(([]:List Int),(([]:List Int),(0,([]:List Int)))))].length)*136<=140737488355328) (nA s.1 (fun y10=>nx (y10,(s.2++[((([]:List Int),(0,([]:List Int))),(([]:List Int),(([]:List Int),(0,([]:List Int)))))]))))else bR r9.1 (fun r11=>if (!r11)=true then K1 ()else ck ((0:Int)<=r9.2/\((1:Nat):Int)*r9.2<=70368744177664) (dI r9.1 (fun r12=>ck ((0:Int)<=r12/\((4:Nat):Int)*r12<=70368744177664) (zI x0 s.1 s.2 (-7) (-7) r9.1 (List.replicate (r12).toNat (0:Int)) [r9.2] (List.replicate (r9.2).toNat (0:Int)) (fun y13=>nA s.1 (fun y14=>nx (y14,y13))))))))))else K0 s.2
structure zP (x0:Int)(x1:List nR)(x2:Int)(x4:List (List Int))(K0:(List iL)->Prop)(K1:Unit->Prop)(s:Int×List iL):Prop where
 it:Go.Mach.Loop (lG x0 x1 x2 x4 K0 K1) s
structure vP (a0:Q4)(a1:Int)(Q:((List iL)×Int)->Prop):Prop where
 it:fF a0 (fun r1=>if (r1.2.2 != 0)=true then Q (([]:List iL),r1.2.2)else zP a1 a0.2 (a0.2.length:Int) r1.1 (fun y15=>Q (y15,0)) (fun _=>Q (([]:List iL),1)) (0,([]:List iL)))
def ML:Ent:=⟨[1,6,9,26,27,28],[.lf (.int .u64),sC (.own 0),aCD,sZ cP,sI,sI],[.lst true (.slc aD) false],fun⟨⟨a,_,_,b,c,d,_⟩,⟨e,_⟩⟩ k=>zP a b c e (fun y17=>k (.exit 0) ⟨[(9,.own 0)],[.lst true dN y17 false]⟩) (fun _=>k .ret ⟨[(4,aL),(5,vI 1)],[]⟩) (d,([]:List iL))⟩
def MG:Ent:=⟨[1,6,9,26,27,28],[.lf (.int .u64),sC (.own 0),sC (.own 1),sZ cP,sI,sI],[.lst true (.slc aD) false,.lst true dN false],fun⟨⟨a,_,_,b,c,d,_⟩,⟨e,f,_⟩⟩ k=>nA d (fun y19=>k .normal ⟨[(1,vK .u64 a),(6,.own 0),(9,.own 1),(26,vZ cP b),(27,vI c),(28,vI y19)],[.lst true (.slc aD) e false,.lst true dN f false]⟩)⟩
def LN:Ent:=⟨[1,6,9,10,14,26,27,28],[.lf (.int .u64),sC (.own 0),sC (.own 1),sI,sPt 2,sZ cP,sI,sI],[.lst true (.slc aD) false,.lst true dN false,.box [.cst (.own 3),lI,eD,.cst (.own 4),.cst (.own 5),lI,.cst (.own 6)] false,oQa,oQc,oQa,.lst true aI false],fun⟨⟨a,_,_,b,_,c,d,e,_⟩,⟨f,g,⟨_,i,_,_,_,j,_⟩,l,m,n,o,_⟩⟩ k=>zI a b g i j l m n o (fun y20=>k .normal ⟨[(1,vK .u64 a),(6,.own 0),(9,.own 1),(26,vZ cP c),(27,vI d),(28,vI e)],[.lst true (.slc aD) f false,.lst true dN y20 false]⟩)⟩
def KO:Ent:=⟨[1,6,9,10,14,26,27,28,65,66],[.lf (.int .u64),sC (.own 0),sC (.own 1),sI,sPt 2,sZ cP,sI,sI,sI,sI],[.lst true (.slc aD) false,.lst true dN false,.box [.cst (.own 3),lI,eD,.cst (.own 4),.cst (.own 5),lI,.cst (.own 6)] false,oQa,oQc,oQa,.lst true aI false],fun⟨⟨a,_,_,b,_,c,d,e,f,g,_⟩,⟨i,j,⟨_,l,_,_,_,m,_⟩,n,o,p,q,_⟩⟩ k=>yU a b f (fun y21=>k (.exit 2) ⟨[(1,vK .u64 a),(6,.own 0),(9,.own 1),(14,.ptr 2 0),(26,vZ cP c),(27,vI d),(28,vI e)],[.lst true (.slc aD) i false,.lst true dN j false,.box [.own 3,vI l,.own 4,.own 5,.own 6,vI m,.own 7] false,.lst true aD n false,.lst true aI y21 false,.lst true aX o false,.lst true aD p false,.lst true aI q false]⟩) (g,([]:List Int))⟩
def N0:=NP.put tt 41 Tryz.func41 [4,5] [(250,[⟨9,none,false,dN⟩]),(2051322,[⟨14,some 2,false,aI⟩])] [(250,ML),(4007,MG),(256415,LN),(2051322,KO)] [.agg [lI,lI,lI,lZ cP],.lf (.int .u64)] [] [(false,(.slc dN)),(false,aD)] (fun x=>vP ((x.1.1,(x.1.2.1,x.1.2.2.1)),x.1.2.2.2.1) x.2.1) ⟨fun _ _ hs ⟨⟨a,_,_,b,c,d,_⟩,⟨e,_⟩⟩ _ h=>dS hs (fun y=>⟨[(1,vK .u64 a),(6,.own 0),(9,.own 1),(26,vZ cP b),(27,vI c),(28,vI y.1)],[.lst true (.slc aD) e false,.lst true dN y.2 false]⟩) (d,([]:List iL)) h.it,fun _ _ hs ⟨⟨_,_,_,_,_,_,_⟩,⟨_,_,_⟩⟩ _ h=>aR hs h.it,fun _ _ hs ⟨⟨_,_,_,_,_,_,_,_,_⟩,⟨_,_,⟨_,_,_,_,_,_,_⟩,_,_,_,_,_⟩⟩ _ h=>aR hs h.it,fun _ _ hs ⟨⟨a,_,_,b,_,c,d,e,f,g,_⟩,⟨i,j,⟨_,l,_,_,_,m,_⟩,n,o,p,q,_⟩⟩ _ h=>dS hs (fun y=>⟨[(1,vK .u64 a),(6,.own 0),(9,.own 1),(10,vI b),(14,.ptr 2 0),(26,vZ cP c),(27,vI d),(28,vI e),(65,vI f),(66,vI y.1)],[.lst true (.slc aD) i false,.lst true dN j false,.box [.own 3,vI l,.own 4,.own 5,.own 6,vI m,.own 7] false,.lst true aD n false,.lst true aI y.2 false,.lst true aX o false,.lst true aD p false,.lst true aI q false]⟩) (g,([]:List Int)) h.it,trivial⟩ fun _ _ h=>⟨_,h.it,by kernel_rfl⟩
structure nL (x0:Int)(x1:List Int)(x2:Int)(K0:Int->Prop):Prop where
 it:dI x1 (fun r8=>K0 (i64.wrap (x0+(i64.wrap (r8+x2)))))
def lD (x1 x3 x4 x5:Int)(x6:List nR)(x13:List (List Int))(K0:Int->Prop)(K1:Unit->Prop)(s:Int×Int)(nx:(Int×Int)->Prop):Prop :=
 if (decide (s.2<x1))=true then ck (aG s.2 x13.length) (if (decide (0<s.2))=true then pW ((x3,(x4,x5)),x6) s.2 (fun r2=>dI r2.1 (fun r3=>jn (fun v4=>if v4=true then K1 ()else nL s.1 (x13.getD ((s.2).toNat) []) r3 (fun y8=>nx (y8,i64.wrap (s.2+1)))) (fun J5=>if ((r2.1.length:Int)==0)=true then ck (aG (i64.wrap (s.2-1)) x6.length) (jn (fun v6=>J5 v6) (fun J7=>if (((x6.getD ((i64.wrap (s.2-1)).toNat) (0,(0,(0,(0,(0,(0,false))))))).1)==1)=true then J7 true else ck (aG (i64.wrap (s.2-1)) x6.length) (J7 (((x6.getD ((i64.wrap (s.2-1)).toNat) (0,(0,(0,(0,(0,(0,false))))))).1)==2))))else J5 false)))else nL s.1 (x13.getD ((s.2).toNat) []) 0 (fun y9=>nx (y9,i64.wrap (s.2+1))))else K0 s.1
structure zH (x1 x3 x4 x5:Int)(x6:List nR)(x13:List (List Int))(K0:Int->Prop)(K1:Unit->Prop)(s:Int×Int):Prop where
 it:Go.Mach.Loop (lD x1 x3 x4 x5 x6 x13 K0 K1) s
structure nB (x0:Int)(K0:Int->Prop):Prop where
 it:K0 (i64.wrap (x0+1))
def kY (x1 x4:Int)(K0:(Int×(List Int)×(List Int)×List iL)->Prop)(s:Int×Int×(List Int)×(List Int)×List iL)(nx:(Int×Int×(List Int)×(List Int)×List iL)->Prop):Prop :=
 if (decide (s.2.1<x4))=true then jn (fun v12=>if v12=true then ck (aG x1 s.2.2.2.2.length) (ck (aG s.1 s.2.2.1.length) (ck (aG s.2.1 ((((s.2.2.2.2.getD ((x1).toNat) (([],(0,[])),([],([],(0,[]))))).1).2).2).length) (∀ (m14:List Int),Go.Mach.SE .i8 (s.2.2.1.getD ((s.1).toNat) 0) (.slc aI) s.2.2.1 m14->(∀ (m15:List Int),Go.Mach.SE .i8 (s.2.2.1.getD ((s.1).toNat) 0) (.slc aI) s.2.2.2.1 m15->(∀ (m16:List iL),Go.Mach.SE .i8 (s.2.2.1.getD ((s.1).toNat) 0) (.slc dN) s.2.2.2.2 m16->(nB s.1 (fun y17=>nx (y17,i64.wrap (s.2.1+1),m14,m15,m16))))))))else nB s.1 (fun y18=>nx (y18,i64.wrap (s.2.1+1),s.2.2.1,s.2.2.2.1,s.2.2.2.2))) (fun J13=>if (decide (s.1<(s.2.2.1.length:Int)))=true then ck (aG s.1 s.2.2.1.length) (J13 ((s.2.2.1.getD ((s.1).toNat) 0) != (-128)))else J13 false)else K0 (s.1,s.2.2.1,s.2.2.2.1,s.2.2.2.2)
structure rW (x1 x4:Int)(K0:(Int×(List Int)×(List Int)×List iL)->Prop)(s:Int×Int×(List Int)×(List Int)×List iL):Prop where
 it:Go.Mach.Loop (kY x1 x4 K0) s
structure nF (x0:Int)(K0:Int->Prop):Prop where
 it:K0 (i64.wrap (x0+1))
def lJ (x1 x4:Int)(K0:(Int×(List Int)×(List Int)×List iL)->Prop)(s:Int×Int×(List Int)×(List Int)×List iL)(nx:(Int×Int×(List Int)×(List Int)×List iL)->Prop):Prop :=
 if (decide (s.2.1<x4))=true then jn (fun v20=>if v20=true then ck (aG x1 s.2.2.2.2.length) (ck (aG s.1 s.2.2.1.length) (ck (aG s.2.1 (((((s.2.2.2.2.getD ((x1).toNat) (([],(0,[])),([],([],(0,[]))))).2).2).2).2).length) (∀ (m22:List Int),Go.Mach.SE .i8 (s.2.2.1.getD ((s.1).toNat) 0) (.slc aI) s.2.2.1 m22->(∀ (m23:List Int),Go.Mach.SE .i8 (s.2.2.1.getD ((s.1).toNat) 0) (.slc aI) s.2.2.2.1 m23->(∀ (m24:List iL),Go.Mach.SE .i8 (s.2.2.1.getD ((s.1).toNat) 0) (.slc dN) s.2.2.2.2 m24->(nF s.1 (fun y25=>nx (y25,i64.wrap (s.2.1+1),m22,m23,m24))))))))else nF s.1 (fun y26=>nx (y26,i64.wrap (s.2.1+1),s.2.2.1,s.2.2.2.1,s.2.2.2.2))) (fun J21=>if (decide (s.1<(s.2.2.1.length:Int)))=true then ck (aG s.1 s.2.2.1.length) (J21 ((s.2.2.1.getD ((s.1).toNat) 0) != (-128)))else J21 false)else K0 (s.1,s.2.2.1,s.2.2.2.1,s.2.2.2.2)
structure rG (x1 x4:Int)(K0:(Int×(List Int)×(List Int)×List iL)->Prop)(s:Int×Int×(List Int)×(List Int)×List iL):Prop where
 it:Go.Mach.Loop (lJ x1 x4 K0) s
def kW (x1:Int)(K0:((List Int)×(List Int)×List iL)->Prop)(s:Int×Int×(List Int)×(List Int)×List iL)(nx:(Int×Int×(List Int)×(List Int)×List iL)->Prop):Prop :=
 if (decide (s.2.1<x1))=true then ck (aG s.2.1 s.2.2.2.2.length) (rW s.2.1 (((((s.2.2.2.2.getD ((s.2.1).toNat) (([],(0,[])),([],([],(0,[]))))).1).2).2).length:Int) (fun y12=>ck (aG s.2.1 y12.2.2.2.length) (rG s.2.1 ((((((y12.2.2.2.getD ((s.2.1).toNat) (([],(0,[])),([],([],(0,[]))))).2).2).2).2).length:Int) (fun y13=>nx (y13.1,i64.wrap (s.2.1+1),y13.2.1,y13.2.2.1,y13.2.2.2)) (y12.1,0,y12.2.1,y12.2.2.1,y12.2.2.2))) (s.1,0,s.2.2.1,s.2.2.2.1,s.2.2.2.2))else K0 (s.2.2.1,s.2.2.2.1,s.2.2.2.2)
structure rB (x1:Int)(K0:((List Int)×(List Int)×List iL)->Prop)(s:Int×Int×(List Int)×(List Int)×List iL):Prop where
 it:Go.Mach.Loop (kW x1 K0) s
structure q9 (x0:Int)(x16:List Int)(K0:Unit->Prop):Prop where
 it:ck ((x16.length+[x0].length)*1<=140737488355328) (K0 ())
def lE (x0:Int)(x9:List Int)(K0:(List Int)->Prop)(s:Int×List Int)(nx:(Int×List Int)->Prop):Prop :=
 if (decide (s.1<x0))=true then ck (90≠(0:Int)) (jn (fun v20=>if v20=true then ck (aG s.1 x9.length) (q9 (x9.getD ((s.1).toNat) 0) s.2 (fun _=>nx (i64.wrap (s.1+1),s.2++[(x9.getD ((s.1).toNat) 0)])))else q9 (i8.wrap ((i64.wrap (s.1*7)).tmod 90)) s.2 (fun _=>nx (i64.wrap (s.1+1),s.2++[(i8.wrap ((i64.wrap (s.1*7)).tmod 90))]))) (fun J21=>if (decide (s.1<(x9.length:Int)))=true then ck (aG s.1 x9.length) (J21 ((x9.getD ((s.1).toNat) 0) != (-128)))else J21 false))else K0 s.2
structure rQ (x0:Int)(x9:List Int)(K0:(List Int)->Prop)(s:Int×List Int):Prop where
 it:Go.Mach.Loop (lE x0 x9 K0) s
structure wH (a0:aO8)(Q:((List iL)×bL×Int)->Prop):Prop where
 it:fF a0.1 (fun r1=>if (r1.2.2 != 0)=true then Q (([]:List iL),(([]:List Int),(0,([]:List Int))),r1.2.2)else zH (r1.1.length:Int) a0.1.1.1 a0.1.1.2.1 a0.1.1.2.2 a0.1.2 r1.1 (fun y10=>if (decide (700<y10))=true then Q (([]:List iL),(([]:List Int),(0,([]:List Int))),10)else vP a0.1 a0.2.1 (fun r11=>if (r11.2 != 0)=true then Q (([]:List iL),(([]:List Int),(0,([]:List Int))),r11.2)else rB (r11.1.length:Int) (fun y14=>ck (3≠(0:Int)) (ck (20≠(0:Int)) (dI [i64.wrap (1+(i64.wrap ((u64.wrap a0.2.2.2.1).tmod 3))),a0.1.1.1,a0.1.1.2.1,a0.1.1.2.2] (fun r15=>rQ r15 y14.2.1 (fun y24=>Q (y14.2.2,([i64.wrap (1+(i64.wrap ((u64.wrap a0.2.2.2.1).tmod 3))),a0.1.1.1,a0.1.1.2.1,a0.1.1.2.2],(((a0.2.2.2.2.2).tmod 20),y24)),0)) (0,([]:List Int)))))) (0,0,a0.2.2.1,a0.2.2.2.2.1,r11.1))) (fun _=>Q (([]:List iL),(([]:List Int),(0,([]:List Int))),1)) (0,0))
def MV:Ent:=⟨[1,3,8,33,34,35],[sPt 0,sPt 1,sI,sC (.own 2),sI,sI],[.box [lI,lI,lI,lZ cP,.int .u64,lZ aI,lI,lZ aI,lI] false,dJ,.lst true (.slc aD) false],fun⟨⟨_,_,a,_,b,c,_⟩,⟨⟨d,e,f,g,i,j,l,m,n,_⟩,⟨_,o,_⟩,p,_⟩⟩ k=>zH b d e f g p (fun y26=>k (.exit 0) ⟨[(1,.ptr 0 0),(3,.ptr 1 0),(8,vI y26)],[.box [vI d,vI e,vI f,vZ cP g,vK .u64 i,vZ aI j,vI l,vZ aI m,vI n] false,.box [aL,vI o,aL] false]⟩) (fun _=>k .ret ⟨[(2,aL),(3,.ptr 0 0),(4,vI 1)],[.box [aL,vI 0,aL] false]⟩) (a,c)⟩
def KM:Ent:=⟨[1,3,14,15,100,101],[sPt 0,sPt 1,sC (.own 2),sI,sI,sI],[.box [lI,lI,lI,lZ cP,.int .u64,lZ aI,lI,lZ aI,lI] false,dJ,.lst true dN false],fun⟨⟨_,_,_,a,b,c,_⟩,⟨⟨d,e,f,g,i,j,l,m,n,_⟩,⟨_,o,_⟩,p,_⟩⟩ k=>rB b (fun y28=>k (.exit 2) ⟨[(1,.ptr 0 0),(3,.ptr 1 0),(14,.own 2)],[.box [vI d,vI e,vI f,vZ cP g,vK .u64 i,vZ aI y28.1,vI l,vZ aI y28.2.1,vI n] false,.box [aL,vI o,aL] false,.lst true dN y28.2.2 false]⟩) (a,c,j,m,p)⟩
def KA:Ent:=⟨[1,3,14,19,208,209],[sPt 0,sPt 1,sC (.own 2),sPt 3,sI,sI],[.box [lI,lI,lI,lZ cP,.int .u64,lZ aI,lI,lZ aI,lI] false,dJ,.lst true dN false,.box [.cst (.own 4),lI,eD] false,oQa],fun⟨⟨_,_,_,_,a,b,_⟩,⟨⟨_,_,_,_,_,_,_,l,_,_⟩,⟨_,n,_⟩,o,⟨_,p,_⟩,q,_⟩⟩ k=>rQ a l (fun y29=>k (.exit 8) ⟨[(3,.ptr 0 0),(14,.own 1),(19,.ptr 2 0)],[.box [aL,vI n,aL] false,.lst true dN o false,.box [.own 3,vI p,.own 4] false,.lst true aD q false,.lst true aI y29 false]⟩) (b,([]:List Int))⟩
def KF:Ent:=⟨[1,3,8,10,11,33,34,35],[sPt 0,sPt 1,sI,.lf (.fz true aD),sI,sC (.own 2),sI,sI],[.box [lI,lI,lI,lZ cP,.int .u64,lZ aI,lI,lZ aI,lI] false,dJ,.lst true (.slc aD) false],fun⟨⟨_,_,a,b,c,_,d,e,_⟩,⟨⟨f,g,i,j,l,m,n,o,p,_⟩,⟨_,q,_⟩,t,_⟩⟩ k=>nL a b c (fun y30=>k .normal ⟨[(1,.ptr 0 0),(3,.ptr 1 0),(8,vI y30),(33,.own 2),(34,vI d),(35,vI e)],[.box [vI f,vI g,vI i,vZ cP j,vK .u64 l,vZ aI m,vI n,vZ aI o,vI p] false,.box [aL,vI q,aL] false,.lst true (.slc aD) t false]⟩)⟩
def MI:Ent:=⟨[1,3,14,15,16,100,101,110,111],[sPt 0,sPt 1,sC (.own 2),sI,sI,sI,sI,sI,sI],[.box [lI,lI,lI,lZ cP,.int .u64,lZ aI,lI,lZ aI,lI] false,dJ,.lst true dN false],fun⟨⟨_,_,_,a,b,c,d,e,f,_⟩,⟨⟨g,i,j,l,m,n,o,p,q,_⟩,⟨_,t,_⟩,u,_⟩⟩ k=>rW b e (fun y31=>k (.exit 4) ⟨[(1,.ptr 0 0),(3,.ptr 1 0),(14,.own 2),(15,vI y31.1),(16,vI b),(100,vI c),(101,vI d)],[.box [vI g,vI i,vI j,vZ cP l,vK .u64 m,vZ aI y31.2.1,vI o,vZ aI y31.2.2.1,vI q] false,.box [aL,vI t,aL] false,.lst true dN y31.2.2.2 false]⟩) (a,f,n,p,u)⟩
def MF:Ent:=⟨[1,3,14,15,16,100,101,149,150],[sPt 0,sPt 1,sC (.own 2),sI,sI,sI,sI,sI,sI],[.box [lI,lI,lI,lZ cP,.int .u64,lZ aI,lI,lZ aI,lI] false,dJ,.lst true dN false],fun⟨⟨_,_,_,a,b,c,d,e,f,_⟩,⟨⟨g,i,j,l,m,n,o,p,q,_⟩,⟨_,t,_⟩,u,_⟩⟩ k=>rG b e (fun y32=>k (.exit 6) ⟨[(1,.ptr 0 0),(3,.ptr 1 0),(14,.own 2),(15,vI y32.1),(100,vI c),(101,vI d)],[.box [vI g,vI i,vI j,vZ cP l,vK .u64 m,vZ aI y32.2.1,vI o,vZ aI y32.2.2.1,vI q] false,.box [aL,vI t,aL] false,.lst true dN y32.2.2.2 false]⟩) (a,f,n,p,u)⟩
def LP:Ent:=⟨[1,3,14,19,21,208,209],[sPt 0,sPt 1,sC (.own 2),sPt 3,.lf (.int .i8),sI,sI],[.box [lI,lI,lI,lZ cP,.int .u64,lZ aI,lI,lZ aI,lI] false,dJ,.lst true dN false,.box [.cst (.own 4),lI,.cst (.own 5)] false,oQa,.lst true aI false],fun⟨⟨_,_,_,_,a,b,c,_⟩,⟨⟨d,e,f,g,i,j,l,m,n,_⟩,⟨_,o,_⟩,p,⟨_,q,_⟩,t,u,_⟩⟩ k=>q9 a u (fun _=>k .normal ⟨[(1,.ptr 0 0),(3,.ptr 1 0),(14,.own 2),(19,.ptr 3 0),(208,vI b),(209,vI c)],[.box [vI d,vI e,vI f,vZ cP g,vK .u64 i,vZ aI j,vI l,vZ aI m,vI n] false,.box [aL,vI o,aL] false,.lst true dN p false,.box [.own 4,vI q,.own 5] false,.lst true aD t false,.lst true aI (u++[a]) false]⟩)⟩
def LI:Ent:=⟨[1,3,14,15,16,100,101,110,111],[sPt 0,sPt 1,sC (.own 2),sI,sI,sI,sI,sI,sI],[.box [lI,lI,lI,lZ cP,.int .u64,lZ aI,lI,lZ aI,lI] false,dJ,.lst true dN false],fun⟨⟨_,_,_,a,b,c,d,e,f,_⟩,⟨⟨g,i,j,l,m,n,o,p,q,_⟩,⟨_,t,_⟩,u,_⟩⟩ k=>nB a (fun y34=>k .normal ⟨[(1,.ptr 0 0),(3,.ptr 1 0),(14,.own 2),(15,vI y34),(16,vI b),(100,vI c),(101,vI d),(110,vI e),(111,vI f)],[.box [vI g,vI i,vI j,vZ cP l,vK .u64 m,vZ aI n,vI o,vZ aI p,vI q] false,.box [aL,vI t,aL] false,.lst true dN u false]⟩)⟩
def MO:Ent:=⟨[1,3,14,15,16,100,101,149,150],[sPt 0,sPt 1,sC (.own 2),sI,sI,sI,sI,sI,sI],[.box [lI,lI,lI,lZ cP,.int .u64,lZ aI,lI,lZ aI,lI] false,dJ,.lst true dN false],fun⟨⟨_,_,_,a,b,c,d,e,f,_⟩,⟨⟨g,i,j,l,m,n,o,p,q,_⟩,⟨_,t,_⟩,u,_⟩⟩ k=>nF a (fun y35=>k .normal ⟨[(1,.ptr 0 0),(3,.ptr 1 0),(14,.own 2),(15,vI y35),(16,vI b),(100,vI c),(101,vI d),(149,vI e),(150,vI f)],[.box [vI g,vI i,vI j,vZ cP l,vK .u64 m,vZ aI n,vI o,vZ aI p,vI q] false,.box [aL,vI t,aL] false,.lst true dN u false]⟩)⟩
def N6:=N0.putX tt 14 Tryz.func14 [2,3,4] [(32762,[⟨19,some 2,false,aI⟩])] [(250,MV),(8186,KM),(32762,KA),(64103,KF),(4191434,MI),(4191438,MF),(8387175,LP),(536503603,LI),(536504115,MO)] [.agg [lI,lI,lI,lZ cP,.int .u64,lZ aI,lI,lZ aI,lI]] [] [(false,(.slc dN)),(true,aY),(false,aD)] (fun x=>wH (((x.1.1,(x.1.2.1,x.1.2.2.1)),x.1.2.2.2.1),(x.1.2.2.2.2.1,(x.1.2.2.2.2.2.1,(x.1.2.2.2.2.2.2.1,(x.1.2.2.2.2.2.2.2.1,x.1.2.2.2.2.2.2.2.2.1)))))) [] none true 0 hI0 ⟨fun _ _ hs ⟨⟨_,_,a,_,b,c,_⟩,⟨⟨d,e,f,g,i,j,l,m,n,_⟩,⟨_,o,_⟩,p,_⟩⟩ _ h=>aH hs (fun y=>⟨⟨(),(),y.1,(),b,y.2,()⟩,⟨⟨d,e,f,g,i,j,l,m,n,()⟩,⟨(),o,(),()⟩,p,()⟩⟩) (a,c) h.it,fun _ _ hs ⟨⟨_,_,_,a,b,c,_⟩,⟨⟨d,e,f,g,i,j,l,m,n,_⟩,⟨_,o,_⟩,p,_⟩⟩ _ h=>aH hs (fun y=>⟨⟨(),(),(),y.1,b,y.2.1,()⟩,⟨⟨d,e,f,g,i,y.2.2.1,l,y.2.2.2.1,n,()⟩,⟨(),o,(),()⟩,y.2.2.2.2,()⟩⟩) (a,c,j,m,p) h.it,fun _ _ hs ⟨⟨_,_,_,_,a,b,_⟩,⟨⟨c,d,e,f,g,i,j,l,m,_⟩,⟨_,n,_⟩,o,⟨_,p,_⟩,q,_⟩⟩ _ h=>dS hs (fun y=>⟨[(1,.ptr 0 0),(3,.ptr 1 0),(14,.own 2),(19,.ptr 3 0),(208,vI a),(209,vI y.1)],[.box [vI c,vI d,vI e,vZ cP f,vK .u64 g,vZ aI i,vI j,vZ aI l,vI m] false,.box [aL,vI n,aL] false,.lst true dN o false,.box [.own 4,vI p,.own 5] false,.lst true aD q false,.lst true aI y.2 false]⟩) (b,([]:List Int)) h.it,fun _ _ hs ⟨⟨_,_,_,_,_,_,_,_,_⟩,⟨⟨_,_,_,_,_,_,_,_,_,_⟩,⟨_,_,_⟩,_,_⟩⟩ _ h=>aR hs h.it,fun _ _ hs ⟨⟨_,_,_,a,b,c,d,e,f,_⟩,⟨⟨g,i,j,l,m,n,o,p,q,_⟩,⟨_,t,_⟩,u,_⟩⟩ _ h=>aH hs (fun y=>⟨⟨(),(),(),y.1,b,c,d,e,y.2.1,()⟩,⟨⟨g,i,j,l,m,y.2.2.1,o,y.2.2.2.1,q,()⟩,⟨(),t,(),()⟩,y.2.2.2.2,()⟩⟩) (a,f,n,p,u) h.it,fun _ _ hs ⟨⟨_,_,_,a,b,c,d,e,f,_⟩,⟨⟨g,i,j,l,m,n,o,p,q,_⟩,⟨_,t,_⟩,u,_⟩⟩ _ h=>aH hs (fun y=>⟨⟨(),(),(),y.1,b,c,d,e,y.2.1,()⟩,⟨⟨g,i,j,l,m,y.2.2.1,o,y.2.2.2.1,q,()⟩,⟨(),t,(),()⟩,y.2.2.2.2,()⟩⟩) (a,f,n,p,u) h.it,fun _ _ hs ⟨⟨_,_,_,_,_,_,_,_⟩,⟨⟨_,_,_,_,_,_,_,_,_,_⟩,⟨_,_,_⟩,_,⟨_,_,_⟩,_,_,_⟩⟩ _ h=>aR hs h.it,fun _ _ hs ⟨⟨_,_,_,_,_,_,_,_,_,_⟩,⟨⟨_,_,_,_,_,_,_,_,_,_⟩,⟨_,_,_⟩,_,_⟩⟩ _ h=>aR hs h.it,fun _ _ hs ⟨⟨_,_,_,_,_,_,_,_,_,_⟩,⟨⟨_,_,_,_,_,_,_,_,_,_⟩,⟨_,_,_⟩,_,_⟩⟩ _ h=>aR hs h.it,trivial⟩ fun _ _ h=>⟨_,h.it,by kernel_rfl⟩
def HZ (x0:Int)(x4 x7:List Int)(K0 K1:Unit->Prop)(s:Int)(nx:Int->Prop):Prop :=
 if (decide (s<x0))=true then ck (aG s x4.length) (ck (aG s x7.length) (if ((x4.getD ((s).toNat) 0) != (x7.getD ((s).toNat) 0))=true then K1 ()else nx (i64.wrap (s+1))))else K0 ()
structure zQ (x0:Int)(x4 x7:List Int)(K0 K1:Unit->Prop)(s:Int):Prop where
 it:Go.Mach.Loop (HZ x0 x4 x7 K0 K1) s
structure Q2 (a0 a1:bL)(Q:Bool->Prop):Prop where
 it:bI a0.1 a1.1 (fun r1=>if (((!r1)||(a0.2.1 != a1.2.1))||((a0.2.2.length:Int) != (a1.2.2.length:Int)))=true then Q false else zQ (a0.2.2.length:Int) a0.2.2 a1.2.2 (fun _=>Q true) (fun _=>Q false) 0)
def LM:Ent:=⟨[2,3,30,31],[sPt 0,sPt 1,sI,sI],[bV,bV],fun⟨⟨_,_,a,b,_⟩,⟨⟨_,_,e,_⟩,⟨_,_,i,_⟩,_⟩⟩ k=>zQ a e i (fun _=>k (.exit 0) ⟨[],[]⟩) (fun _=>k .ret ⟨[(4,vB false)],[]⟩) b⟩
def OA:=N6.put tt 37 Tryz.func37 [4] [] [(58,LM)] [.agg cO,.agg cO] [] [(false,.bool)] (fun x=>Q2 (x.1.1,(x.1.2.1,x.1.2.2.1)) (x.2.1.1,(x.2.1.2.1,x.2.1.2.2.1))) ⟨fun _ _ hs ⟨⟨_,_,a,b,_⟩,⟨⟨c,d,e,_⟩,⟨f,g,i,_⟩,_⟩⟩ _ h=>aH hs (fun y=>⟨⟨(),(),a,y,()⟩,⟨⟨c,d,e,()⟩,⟨f,g,i,()⟩,()⟩⟩) b h.it,trivial⟩ fun _ _ h=>⟨_,h.it,by kernel_rfl⟩
end
end Go.Proofs.YtcfpfefadlnmcaaGreat
