/- Part of the proof. No condition. -/
import Derived.Test.YtcfpfefadlnmcaaGreatYVStr
import Derived.Test.YtcfpfefadlnmcaaGreatProg
import Derived.KernelRfl
namespace Go.Proofs.YtcfpfefadlnmcaaGreat
open IntKind (i8 i16 i32 i64 u8 u16 u32 u64)
open Go.Mach
set_option maxRecDepth 100000
set_option linter.unusedVariables false
noncomputable section
abbrev TT7:Ty:=(.pair (.int .i64) (.pair (.int .i64) (.pair .bool (.int .u8))))
abbrev aOP:Ty:=(.pair .str (.int .u64))
abbrev aJt:Ty:=(.pair (.pair (.int .i64) (.pair (.int .i64) (.int .i64))) (.slc (.pair (.int .i64) (.pair (.int .i64) (.pair (.int .i64) (.pair (.int .i64) (.pair (.int .i64) (.pair (.int .i64) .bool))))))))
abbrev QV:Type:=(Int×Int×Int)×List (Int×Int×Int×Int×Int×Int×Bool)
abbrev aX:Ty:=(.pair (.slc aD) (.pair (.int .i64) (.slc aL)))
abbrev aZ:Type:=(List Int)×Int×List Int
abbrev dJ:Ty:=(.pair aX (.pair (.slc aY) aX))
abbrev gJ:Type:=aZ×(List Int)×aZ
abbrev aId:Ty:=(.pair (.slc aX) (.slc (.slc aD)))
abbrev aJo:Type:=(List aZ)×List (List Int)
abbrev aN7:Ty:=(.pair aJt (.pair (.int .u64) (.pair (.slc aL) (.pair (.int .i64) (.pair (.slc aL) (.int .i64))))))
abbrev aN4:Type:=QV×Int×(List Int)×Int×(List Int)×Int
abbrev cM:Ty:=(.pair (.int .i64) (.pair (.int .i64) (.pair (.int .i64) (.pair (.int .i64) (.pair (.int .i64) (.pair (.int .i64) .bool))))))
abbrev l6:Type:=Int×Int×Int×Int×Int×Int×Bool
abbrev tI:Ty:=(.pair (.slc aD) (.pair (.int .i64) (.slc aY)))
abbrev oV:Type:=(List Int)×Int×List Int
abbrev gK:Ty:=(.pair .bool (.pair tI tI))
abbrev vV:Type:=Bool×oV×oV
abbrev aMr:Ty:=(.pair aJt (.pair (.slc dJ) (.pair aId (.pair (.slc (.ref aX)) (.pair (.int .u64) (.int .i64))))))
abbrev aJU:Ty:=(.pair (.slc aX) (.pair (.int .u64) (.int .i64)))
abbrev aFz:Ty:=(.pair (.int .i64) (.pair (.int .i64) (.pair (.int .i64) (.pair (.int .i64) (.pair (.int .i64) (.int .i64))))))
abbrev aME:Type:=Int×Int×Int×Int×Int×Int
abbrev bN:Ty:=(.pair (.int .i64) (.pair (.int .i64) (.int .i64)))
abbrev bG:Type:=Int×Int×Int
abbrev aJz:Ty:=(.pair (.int .i64) aFz)
abbrev aKc:Type:=Int×aME
abbrev aMB:Ty:=(.pair (.int .i64) (.pair (.int .i64) bN))
abbrev aLt:Type:=Int×Int×bG
noncomputable def tt:TypeId->Option Ty:=fun t=>match t with
 | 2=>some (.int .i64)
 | 3=>some (.int .i64)
 | 4=>some .bool
 | 5=>some (.int .u8)
 | 6=>some (.int .u8)
 | 7=>some TT7
 | 8=>some TT7
 | 9=>some .str
 | 10=>some .str
 | 11=>some .str
 | 12=>some (.int .u64)
 | 13=>some aOP
 | 14=>some aOP
 | 21=>some (.int .i32)
 | 22=>some bN
 | 23=>some (.slc cM)
 | 24=>some aJt
 | 25=>some aJt
 | 26=>some (.slc dJ)
 | 27=>some (.slc aD)
 | 28=>some (.slc aL)
 | 29=>some aX
 | 30=>some aX
 | 31=>some (.int .u64)
 | 33=>some (.slc aY)
 | 34=>some dJ
 | 35=>some dJ
 | 36=>some (.slc aX)
 | 37=>some (.slc (.slc aD))
 | 38=>some aId
 | 39=>some aId
 | 40=>some (.int .i64)
 | 43=>some aId
 | 48=>some aN7
 | 49=>some aN7
 | 53=>some (.slc gK)
 | 60=>some cM
 | 61=>some cM
 | 64=>some tI
 | 65=>some tI
 | 66=>some gK
 | 67=>some gK
 | 73=>some (.int .i8)
 | 94=>some (.ref aMr)
 | 95=>some (.slc (.ref aX))
 | 96=>some aMr
 | 97=>some aMr
 | 99=>some (.ref aX)
 | 103=>some (.ref aJU)
 | 104=>some aJU
 | 105=>some aJU
 | 107=>some (.ref gK)
 | 145=>some aFz
 | 146=>some aFz
 | 160=>some (.slc bN)
 | 162=>some bN
 | 163=>some bN
 | 169=>some (.int .u64)
 | 189=>some aJz
 | 190=>some aJz
 | 198=>some aFz
 | 200=>some aMB
 | 201=>some aMB
 | 203=>some .cpx
 | 207=>some .flt
 | 217=>some (.int .u32)
 | 218=>some (.int .u8)
 | 219=>some (.int .u8)
 | 222=>some (.int .i32)
 | 223=>some (.int .i32)
 | _=>none
noncomputable def T__:Tb Tryz.prog:=Tb.none
def MI (x1:List Int)(x2:Int)(K0:Int->Prop)(K1:Unit->Prop)(s:Int×Int)(nx:(Int×Int)->Prop):Prop :=
 if (decide (s.2<x2))=true then ck (aF s.2 x1.length) (if (((decide ((x1.getD ((s.2).toNat) 0)<1))||(decide (4096<(x1.getD ((s.2).toNat) 0))))||(decide (8192<(i64.wrap (s.1*(x1.getD ((s.2).toNat) 0))))))=true then K1 ()else nx (i64.wrap (s.1*(x1.getD ((s.2).toNat) 0)),i64.wrap (s.2+1)))else K0 s.1
structure RO (x1:List Int)(x2:Int)(K0:Int->Prop)(K1:Unit->Prop)(s:Int×Int):Prop where
 it:Go.Mach.Loop (MI x1 x2 K0 K1) s
structure o5 (a0:List Int)(Q:Int->Prop):Prop where
 it:if ((decide ((a0.length:Int)<1))||(decide (4<(a0.length:Int))))=true then Q 0 else RO a0 (a0.length:Int) (fun y1=>Q y1) (fun _=>Q 0) (1,0)
def aBg:Ent:=⟨[3,14,15,16],[sI,sZ aD,sI,sI],[],fun⟨⟨a,b,c,d,_⟩,_⟩ k=>RO b c (fun y3=>k (.exit 0) ⟨[(3,vI y3)],[]⟩) (fun _=>k .ret ⟨[(2,vI 0)],[]⟩) (a,d)⟩
def aEG:=T__.put tt 54 Tryz.func54 [2] [] [(122,aBg)] [sZ aD] [] [(false,aD)] (fun x=>o5 x.1) ⟨fun _ _ hs ⟨⟨a,b,c,d,_⟩,_⟩ _ h=>aH hs (fun y=>⟨⟨y.1,b,c,y.2,()⟩,()⟩) (a,d) h.it,trivial⟩ fun _ _ h=>⟨_,h.it,by kernel_rfl⟩
structure j7 (a0:List Int)(Q:Bool->Prop):Prop where
 it:o5 a0 (fun r1=>Q (decide (0<r1)))
def aGC:=aEG.put tt 53 Tryz.func53 [2] [] [] [sZ aD] [] [(false,.bool)] (fun x=>j7 x.1) trivial fun _ _ h=>⟨_,h.it,by kernel_rfl⟩
structure EU (a0 a1:Int)(Q:Bool->Prop):Prop where
 it:Q ((decide ((i64.wrap (0-a1))<=a0))&&(decide (a0<=a1)))
def aDO:=aGC.put tt 55 Tryz.func55 [4] [] [] [sI,sI] [] [(false,.bool)] (fun x=>EU x.1 x.2.1) trivial fun _ _ h=>⟨_,h.it,by kernel_rfl⟩
def iL (x0:List Int)(x1 x2:Int)(K0:Unit->Prop)(K1:Int->Prop)(s:Int)(nx:Int->Prop):Prop :=
 if (decide (s<x2))=true then ck (aF s x0.length) (if (x1==(x0.getD ((s).toNat) 0))=true then K1 s else nx (i64.wrap (s+1)))else K0 ()
structure uW (x0:List Int)(x1 x2:Int)(K0:Unit->Prop)(K1:Int->Prop)(s:Int):Prop where
 it:Go.Mach.Loop (iL x0 x1 x2 K0 K1) s
structure yL (a0:List Int)(a1:Int)(Q:Int->Prop):Prop where
 it:uW a0 a1 (a0.length:Int) (fun _=>Q (-1)) (fun y2=>Q y2) 0
def FJ:Ent:=⟨[0,1,7,8],[sZ aL,.lf (.int .i8),sI,sI],[],fun⟨⟨a,b,c,d,_⟩,_⟩ k=>uW a b c (fun _=>k (.exit 0) ⟨[],[]⟩) (fun y4=>k .ret ⟨[(4,vI y4)],[]⟩) d⟩
def G5:=aDO.put tt 96 Tryz.func96 [4] [] [(26,FJ)] [sZ aL,.lf (.int .i8)] [] [(false,aD)] (fun x=>yL x.1 x.2.1) ⟨fun _ _ hs ⟨⟨a,b,c,d,_⟩,_⟩ _ h=>aH hs (fun y=>⟨⟨a,b,c,y,()⟩,()⟩) d h.it,trivial⟩ fun _ _ h=>⟨_,h.it,by kernel_rfl⟩
structure oJ (a0:List Int)(a1:Int)(Q:Bool->Prop):Prop where
 it:yL a0 a1 (fun r1=>Q (decide (0<=r1)))
def DA:=G5.put tt 56 Tryz.func56 [4] [] [] [sZ aL,.lf (.int .i8)] [] [(false,.bool)] (fun x=>oJ x.1 x.2.1) trivial fun _ _ h=>⟨_,h.it,by kernel_rfl⟩
structure dO (a0:aZ)(Q:Bool->Prop):Prop where
 it:j7 a0.1 (fun r1=>jn (fun v2=>jn (fun v5=>jn (fun v8=>Q v8) (fun J9=>if v5=true then oJ a0.2.2 (-128) (fun r10=>J9 (!r10))else J9 false)) (fun J6=>if v2=true then EU a0.2.1 64 (fun r7=>J6 r7)else J6 false)) (fun J3=>if r1=true then o5 a0.1 (fun r4=>J3 ((a0.2.2.length:Int)==r4))else J3 false))
def aEQ:=DA.put tt 26 Tryz.func26 [2] [] [] [.agg cR] [] [(false,.bool)] (fun x=>dO (x.1.1,(x.1.2.1,x.1.2.2.1))) trivial fun _ _ h=>⟨_,h.it,by kernel_rfl⟩
def yQ (x2:List aZ)(x3:Int)(K0 K1:Unit->Prop)(s:Int)(nx:Int->Prop):Prop :=
 if (decide (s<x3))=true then ck (aF s x2.length) (dO (x2.getD ((s).toNat) ([],(0,[]))) (fun r1=>if (!r1)=true then K1 ()else nx (i64.wrap (s+1))))else K0 ()
structure TH (x2:List aZ)(x3:Int)(K0 K1:Unit->Prop)(s:Int):Prop where
 it:Go.Mach.Loop (yQ x2 x3 K0 K1) s
def yY (x0:Int)(x1:List aZ)(x2:Int)(K0 K1:Unit->Prop)(s:Int)(nx:Int->Prop):Prop :=
 if (decide (s<x2))=true then ck (aF s x1.length) (if ((((x1.getD ((s).toNat) ([],(0,[]))).1).length:Int) != x0)=true then K1 ()else nx (i64.wrap (s+1)))else K0 ()
structure TU (x0:Int)(x1:List aZ)(x2:Int)(K0 K1:Unit->Prop)(s:Int):Prop where
 it:Go.Mach.Loop (yY x0 x1 x2 K0 K1) s
structure DZ (a0:Int)(a1:List aZ)(Q:Int->Prop):Prop where
 it:TH a1 (a1.length:Int) (fun _=>TU a0 a1 (a1.length:Int) (fun _=>Q 0) (fun _=>Q 2) 0) (fun _=>Q 1) 0
def aDZ:Ent:=⟨[0,1,9,10,11],[sI,sZ aX,sZ aX,sI,sI],[],fun⟨⟨a,b,c,d,e,_⟩,_⟩ k=>TH c d (fun _=>k (.exit 0) ⟨[(0,vI a),(1,vZ aX b)],[]⟩) (fun _=>k .ret ⟨[(4,vI 1)],[]⟩) e⟩
def aDY:Ent:=⟨[0,19,20,21],[sI,sZ aX,sI,sI],[],fun⟨⟨a,b,c,d,_⟩,_⟩ k=>TU a b c (fun _=>k (.exit 2) ⟨[],[]⟩) (fun _=>k .ret ⟨[(4,vI 2)],[]⟩) d⟩
def aEw:=aEQ.put tt 155 Tryz.func155 [4] [] [(26,aDZ),(58,aDY)] [sI,sZ aX] [] [(false,aD)] (fun x=>DZ x.1 x.2.1) ⟨fun _ _ hs ⟨⟨a,b,c,d,e,_⟩,_⟩ _ h=>aH hs (fun y=>⟨⟨a,b,c,d,y,()⟩,()⟩) e h.it,fun _ _ hs ⟨⟨a,b,c,d,_⟩,_⟩ _ h=>aH hs (fun y=>⟨⟨a,b,c,y,()⟩,()⟩) d h.it,trivial⟩ fun _ _ h=>⟨_,h.it,by kernel_rfl⟩
structure wW (a0:Int)(Q:Bool->Prop):Prop where
 it:Q (((decide (0<=a0))&&(decide (a0<=1023)))&&(decide ((i64.wrap ((i64.wrap (a0*16384))+1048576))<16777216)))
def aDW:=aEw.put tt 184 Tryz.func184 [2] [] [] [sI] [] [(false,.bool)] (fun x=>wW x.1) trivial fun _ _ h=>⟨_,h.it,by kernel_rfl⟩
structure jJ (a0 a1 a2:Int)(Q:Int->Prop):Prop where
 it:Q (aQ a1 (aU a0 a2))
def ND:=aDW.put tt 170 Tryz.func170 [6] [] [] [sI,sI,sI] [] [(false,aD)] (fun x=>jJ x.1 x.2.1 x.2.2.1) trivial fun _ _ h=>⟨_,h.it,by kernel_rfl⟩
structure xQ (a0:Int)(Q:Int->Prop):Prop where
 it:jJ a0 (-4611686018427387904) 4611686018427387904 (fun r1=>Q r1)
def aBk:=ND.put tt 167 Tryz.func167 [2] [] [] [sI] [] [(false,aD)] (fun x=>xQ x.1) trivial fun _ _ h=>⟨_,h.it,by kernel_rfl⟩
structure lP (a0 a1 a2:Int)(Q:Int->Prop):Prop where
 it:Q (aQ a1 (aU a0 a2))
def QU:=aBk.put tt 169 Tryz.func169 [6] [] [] [sI,sI,sI] [] [(false,aD)] (fun x=>lP x.1 x.2.1 x.2.2.1) trivial fun _ _ h=>⟨_,h.it,by kernel_rfl⟩
structure BE (a0 a1 a2:Int)(Q:Int->Prop):Prop where
 it:xQ a0 (fun r1=>lP a1 (-1000) 1000 (fun r2=>lP a2 (-1000) 1000 (fun r3=>if (decide ((i64.wrap (r2-r3))<0))=true then ck ((0:Int)<=(aU (i64.wrap (0-(i64.wrap (r2-r3)))) 62)) (Q ((r1).fdiv (2 ^ (min (aU (i64.wrap (0-(i64.wrap (r2-r3)))) 62).toNat (i64).bits))))else if ((decide (20<(i64.wrap (r2-r3))))&&(decide (0<r1)))=true then Q 1048576 else if ((decide (20<(i64.wrap (r2-r3))))&&(decide (r1<0)))=true then Q (-1048576)else if (decide (20<(i64.wrap (r2-r3))))=true then Q 0 else jJ r1 (-1048576) 1048576 (fun r4=>ck ((0:Int)<=(i64.wrap (r2-r3))) (jJ (i64.wrap (r4*2 ^ (min (i64.wrap (r2-r3)).toNat (i64).bits))) (-1048576) 1048576 (fun r5=>Q r5))))))
def aBn:=QU.put tt 158 Tryz.func158 [6] [] [] [sI,sI,sI] [] [(false,aD)] (fun x=>BE x.1 x.2.1 x.2.2.1) trivial fun _ _ h=>⟨_,h.it,by kernel_rfl⟩
def oS (x0 x1 x2:Int)(x5 x8:List Int)(x10:Int)(K0:Int->Prop)(s:Int×Int)(nx:(Int×Int)->Prop):Prop :=
 if (decide (s.2<x10))=true then ck (aF (i64.wrap ((i64.wrap (x0*x2))+s.2)) x5.length) (ck (aF (i64.wrap ((i64.wrap (x1*x2))+s.2)) x8.length) (nx (i64.wrap (s.1+(i64.wrap ((i64.wrap (x5.getD ((i64.wrap ((i64.wrap (x0*x2))+s.2)).toNat) 0))*(i64.wrap (x8.getD ((i64.wrap ((i64.wrap (x1*x2))+s.2)).toNat) 0))))),i64.wrap (s.2+1))))else K0 s.1
structure EV (x0 x1 x2:Int)(x5 x8:List Int)(x10:Int)(K0:Int->Prop)(s:Int×Int):Prop where
 it:Go.Mach.Loop (oS x0 x1 x2 x5 x8 x10 K0) s
structure wM (a0 a1:Int)(a2:List Int)(a3:Int)(a4:List Int)(a5 a6:Int)(a7:List Int)(a8:Int)(a9 a10:List Int)(a11:Int)(a12:List Int)(Q:Int->Prop):Prop where
 it:ck (aF a1 a4.length) (BE (i64.wrap (a4.getD ((a1).toNat) 0)) a3 a5 (fun r1=>EV a0 a1 a6 a9 a12 a6 (fun y2=>Q y2) (r1,0)))
def R6:Ent:=⟨[0,1,4,5,6,10,22,23],[sI,sI,.bx [lI],.bx cR,.bx cR,sI,sI,sI],[],fun⟨⟨a,b,⟨c,_⟩,⟨_,_,f,_⟩,⟨_,_,j,_⟩,l,m,n,_⟩,_⟩ k=>EV a b c f j m (fun y3=>k (.exit 0) ⟨[(10,vI y3)],[]⟩) (l,n)⟩
def TX:=aBn.put tt 157 Tryz.func157 [9] [] [(58,R6)] [sI,sI,.bx cR,.bx [lI],.bx [lI],.bx cR,.bx cR] [] [(false,aD)] (fun x=>wM x.1 x.2.1 x.2.2.1.1 x.2.2.1.2.1 x.2.2.1.2.2.1 x.2.2.2.1.1 x.2.2.2.2.1.1 x.2.2.2.2.2.1.1 x.2.2.2.2.2.1.2.1 x.2.2.2.2.2.1.2.2.1 x.2.2.2.2.2.2.1.1 x.2.2.2.2.2.2.1.2.1 x.2.2.2.2.2.2.1.2.2.1) ⟨fun _ _ hs ⟨⟨a,b,⟨c,_⟩,⟨d,e,f,_⟩,⟨g,i,j,_⟩,l,m,n,_⟩,_⟩ _ h=>aH hs (fun y=>⟨⟨a,b,⟨c,()⟩,⟨d,e,f,()⟩,⟨g,i,j,()⟩,y.1,m,y.2,()⟩,()⟩) (l,n) h.it,trivial⟩ fun _ _ h=>⟨_,h.it,by kernel_rfl⟩
def jD (x1:List Int)(x2:Int)(x3:List Int)(x4 x5:Int)(x6:List Int)(x7:Int)(x8 x9:List Int)(x10:Int)(x11:List Int)(x12 x15:Int)(K0:(List Int)->Prop)(s:Int×List Int)(nx:(Int×List Int)->Prop):Prop :=
 if (decide (s.1<x15))=true then wM x12 s.1 x1 x2 x3 x4 x5 x6 x7 x8 x9 x10 x11 (fun r6=>ck ((s.2.length+[i32.wrap r6].length)*4<=140737488355328) (nx (i64.wrap (s.1+1),s.2++[i32.wrap r6])))else K0 s.2
structure p6 (x1:List Int)(x2:Int)(x3:List Int)(x4 x5:Int)(x6:List Int)(x7:Int)(x8 x9:List Int)(x10:Int)(x11:List Int)(x12 x15:Int)(K0:(List Int)->Prop)(s:Int×List Int):Prop where
 it:Go.Mach.Loop (jD x1 x2 x3 x4 x5 x6 x7 x8 x9 x10 x11 x12 x15 K0) s
def eX (x0:Int)(x1:List Int)(x2:Int)(x3:List Int)(x4 x5:Int)(x6:List Int)(x7:Int)(x8 x9:List Int)(x10:Int)(x11:List Int)(x12:Int)(K0:(List Int)->Prop)(s:Int×List Int)(nx:(Int×List Int)->Prop):Prop :=
 if (decide (s.1<x12))=true then p6 x1 x2 x3 x4 x5 x6 x7 x8 x9 x10 x11 s.1 x0 (fun y6=>nx (i64.wrap (s.1+1),y6)) (0,s.2)else K0 s.2
structure pW (x0:Int)(x1:List Int)(x2:Int)(x3:List Int)(x4 x5:Int)(x6:List Int)(x7:Int)(x8 x9:List Int)(x10:Int)(x11:List Int)(x12:Int)(K0:(List Int)->Prop)(s:Int×List Int):Prop where
 it:Go.Mach.Loop (eX x0 x1 x2 x3 x4 x5 x6 x7 x8 x9 x10 x11 x12 K0) s
structure iH (a0 a1 a2 a3:Int)(a4:List Int)(a5:Int)(a6:List Int)(a7 a8:Int)(a9:List Int)(a10:Int)(a11 a12:List Int)(a13:Int)(a14:List Int)(Q:(oV×Int)->Prop):Prop where
 it:wW a2 (fun r1=>if (((!r1)||(decide (128<a3)))||(decide (a3<(-128))))=true then Q ((([]:List Int),(0,([]:List Int))),3)else j7 [a0,a1] (fun r2=>if (!r2)=true then Q ((([]:List Int),(0,([]:List Int))),1)else pW a1 a4 a5 a6 a7 a8 a9 a10 a11 a12 a13 a14 a0 (fun y7=>Q (([a0,a1],(a3,y7)),0)) (0,([]:List Int))))
def AO:Ent:=⟨[1,4,10,12,39,40],[sI,.fn 157 [.bx cR,.bx [lI],.bx [lI],.bx cR,.bx cR],sPt 0,sPt 1,sI,sI],[dG,.box [.cst (.own 2),lI,eE] false,oQa],fun⟨⟨a,⟨⟨b,c,d,_⟩,⟨e,_⟩,⟨f,_⟩,⟨g,i,j,_⟩,⟨l,m,n,_⟩,_⟩,_,_,o,p,_⟩,⟨⟨_,q,_⟩,⟨_,t,_⟩,u,_⟩⟩ k=>pW a b c d e f g i j l m n o (fun y8=>k (.exit 1) ⟨[(10,.ptr 0 0),(12,.ptr 1 0)],[.box [aK,vI q,aK] false,.box [.own 2,vI t,.own 3] false,.lst true aD u false,.lst true aY y8 false]⟩) (p,([]:List Int))⟩
def AL:Ent:=⟨[1,4,10,12,13,39,40,43,44],[sI,.fn 157 [.bx cR,.bx [lI],.bx [lI],.bx cR,.bx cR],sPt 0,sPt 1,sI,sI,sI,sI,sI],[dG,.box [.cst (.own 2),lI,.cst (.own 3)] false,oQa,oQc],fun⟨⟨a,⟨⟨b,c,d,_⟩,⟨e,_⟩,⟨f,_⟩,⟨g,i,j,_⟩,⟨l,m,n,_⟩,_⟩,_,_,o,p,q,t,u,_⟩,⟨⟨_,w,_⟩,⟨_,z,_⟩,a0,a1,_⟩⟩ k=>p6 b c d e f g i j l m n o t (fun y9=>k (.exit 3) ⟨[(1,vI a),(4,.fn 157 [.bx [vZ aD b,vI c,vZ aL d] 0,.bx [vI e] 0,.bx [vI f] 0,.bx [vZ aD g,vI i,vZ aL j] 0,.bx [vZ aD l,vI m,vZ aL n] 0]),(10,.ptr 0 0),(12,.ptr 1 0),(39,vI p),(40,vI q)],[.box [aK,vI w,aK] false,.box [.own 2,vI z,.own 3] false,.lst true aD a0 false,.lst true aY y9 false]⟩) (u,a1)⟩
def BL:=TX.putX tt 156 Tryz.func156 [10,11] [(122,[⟨12,some 2,false,aY⟩]),(31334,[⟨12,some 2,false,aY⟩])] [(122,AO),(31334,AL)] [sI,sI,sI,sI,.fn 157 [.bx cR,.bx [lI],.bx [lI],.bx cR,.bx cR]] [] [(true,tI),(false,aD)] (fun x=>iH x.1 x.2.1 x.2.2.1 x.2.2.2.1 x.2.2.2.2.1.1.1 x.2.2.2.2.1.1.2.1 x.2.2.2.2.1.1.2.2.1 x.2.2.2.2.1.2.1.1 x.2.2.2.2.1.2.2.1.1 x.2.2.2.2.1.2.2.2.1.1 x.2.2.2.2.1.2.2.2.1.2.1 x.2.2.2.2.1.2.2.2.1.2.2.1 x.2.2.2.2.1.2.2.2.2.1.1 x.2.2.2.2.1.2.2.2.2.1.2.1 x.2.2.2.2.1.2.2.2.2.1.2.2.1) [157] none false 0 hI0 ⟨fun _ _ hs ⟨⟨a,⟨⟨b,c,d,_⟩,⟨e,_⟩,⟨f,_⟩,⟨g,i,j,_⟩,⟨l,m,n,_⟩,_⟩,_,_,o,p,_⟩,⟨⟨_,q,_⟩,⟨_,t,_⟩,u,_⟩⟩ _ h=>fD hs (fun y=>⟨[(1,vI a),(4,.fn 157 [.bx [vZ aD b,vI c,vZ aL d] 0,.bx [vI e] 0,.bx [vI f] 0,.bx [vZ aD g,vI i,vZ aL j] 0,.bx [vZ aD l,vI m,vZ aL n] 0]),(10,.ptr 0 0),(12,.ptr 1 0),(39,vI o),(40,vI y.1)],[.box [aK,vI q,aK] false,.box [.own 2,vI t,.own 3] false,.lst true aD u false,.lst true aY y.2 false]⟩) (p,([]:List Int)) h.it,fun _ _ hs ⟨⟨a,⟨⟨b,c,d,_⟩,⟨e,_⟩,⟨f,_⟩,⟨g,i,j,_⟩,⟨l,m,n,_⟩,_⟩,_,_,o,p,q,t,u,_⟩,⟨⟨_,w,_⟩,⟨_,z,_⟩,a0,a1,_⟩⟩ _ h=>aH hs (fun y=>⟨⟨a,⟨⟨b,c,d,()⟩,⟨e,()⟩,⟨f,()⟩,⟨g,i,j,()⟩,⟨l,m,n,()⟩,()⟩,(),(),o,p,q,t,y.1,()⟩,⟨⟨(),w,(),()⟩,⟨(),z,(),()⟩,a0,y.2,()⟩⟩) (u,a1) h.it,trivial⟩ fun _ _ h=>⟨_,h.it,by kernel_rfl⟩
structure HD (a0 a1 a2:aZ)(Q:(oV×Int)->Prop):Prop where
 it:dO a2 (fun r1=>if (!r1)=true then Q ((([]:List Int),(0,([]:List Int))),1)else DZ 2 [a0,a1] (fun r2=>if (r2 != 0)=true then Q ((([]:List Int),(0,([]:List Int))),r2)else ck (aF 0 a0.1.length) (ck (aF 1 a0.1.length) (ck (aF 0 a1.1.length) (ck (aF 1 a1.1.length) (jn (fun v3=>if v3=true then Q ((([]:List Int),(0,([]:List Int))),2)else iH (a0.1.getD 0 0) (a1.1.getD 0 0) (a0.1.getD 1 0) (i64.wrap (a0.2.1+a1.2.1)) a2.1 a2.2.1 a2.2.2 (i64.wrap (a0.2.1+a1.2.1)) (a0.1.getD 1 0) a0.1 a0.2.1 a0.2.2 a1.1 a1.2.1 a1.2.2 (fun r5=>Q (r5.1,r5.2))) (fun J4=>if (((a1.1.getD 1 0) != (a0.1.getD 1 0))||((a2.1.length:Int) != 1))=true then J4 true else ck (aF 0 a2.1.length) (J4 ((a2.1.getD 0 0) != (a1.1.getD 0 0))))))))))
def YP:=BL.put tt 97 Tryz.func97 [6,7] [] [] [.agg cR,.agg cR,.agg cR] [] [(true,tI),(false,aD)] (fun x=>HD (x.1.1,(x.1.2.1,x.1.2.2.1)) (x.2.1.1,(x.2.1.2.1,x.2.1.2.2.1)) (x.2.2.1.1,(x.2.2.1.2.1,x.2.2.1.2.2.1))) trivial fun _ _ h=>⟨_,h.it,by kernel_rfl⟩
def AW (x1:List aZ)(x2:Int)(K0 K1:Unit->Prop)(s:Int)(nx:Int->Prop):Prop :=
 if (decide (s<x2))=true then ck (aF s x1.length) (dO (x1.getD ((s).toNat) ([],(0,[]))) (fun r1=>if (!r1)=true then K1 ()else nx (i64.wrap (s+1))))else K0 ()
structure WT (x1:List aZ)(x2:Int)(K0 K1:Unit->Prop)(s:Int):Prop where
 it:Go.Mach.Loop (AW x1 x2 K0 K1) s
def AZ (x0:List aZ)(x1:Int)(K0 K1:Unit->Prop)(s:Int)(nx:Int->Prop):Prop :=
 if (decide (s<x1))=true then ck (aF s x0.length) (if ((((x0.getD ((s).toNat) ([],(0,[]))).1).length:Int) != 4)=true then K1 ()else nx (i64.wrap (s+1)))else K0 ()
structure W8 (x0:List aZ)(x1:Int)(K0 K1:Unit->Prop)(s:Int):Prop where
 it:Go.Mach.Loop (AZ x0 x1 K0 K1) s
structure PA (a0:List aZ)(Q:Int->Prop):Prop where
 it:WT a0 (a0.length:Int) (fun _=>W8 a0 (a0.length:Int) (fun _=>Q 0) (fun _=>Q 2) 0) (fun _=>Q 1) 0
def aFx:Ent:=⟨[0,7,8,9],[sZ aX,sZ aX,sI,sI],[],fun⟨⟨a,b,c,d,_⟩,_⟩ k=>WT b c (fun _=>k (.exit 0) ⟨[(0,vZ aX a)],[]⟩) (fun _=>k .ret ⟨[(2,vI 1)],[]⟩) d⟩
def aFt:Ent:=⟨[17,18,19],[sZ aX,sI,sI],[],fun⟨⟨a,b,c,_⟩,_⟩ k=>W8 a b (fun _=>k (.exit 2) ⟨[],[]⟩) (fun _=>k .ret ⟨[(2,vI 2)],[]⟩) c⟩
def aG7:=YP.put tt 159 Tryz.func159 [2] [] [(26,aFx),(58,aFt)] [sZ aX] [] [(false,aD)] (fun x=>PA x.1) ⟨fun _ _ hs ⟨⟨a,b,c,d,_⟩,_⟩ _ h=>aH hs (fun y=>⟨⟨a,b,c,y,()⟩,()⟩) d h.it,fun _ _ hs ⟨⟨a,b,c,_⟩,_⟩ _ h=>aH hs (fun y=>⟨⟨a,b,y,()⟩,()⟩) c h.it,trivial⟩ fun _ _ h=>⟨_,h.it,by kernel_rfl⟩
structure IR (a0 a1 a2:Int)(Q:Bool->Prop):Prop where
 it:Q ((decide (a1<=a0))&&(decide (a0<=a2)))
def aGz:=aG7.put tt 186 Tryz.func186 [6] [] [] [sI,sI,sI] [] [(false,.bool)] (fun x=>IR x.1 x.2.1 x.2.2.1) trivial fun _ _ h=>⟨_,h.it,by kernel_rfl⟩
structure sH (a0 a1 a2 a3:Int)(Q:Int->Prop):Prop where
 it:IR a0 1 16 (fun r1=>jn (fun v2=>jn (fun v5=>jn (fun v8=>if (v8||(decide ((i64.wrap (a0+(i64.wrap (2*a3))))<a1)))=true then Q 0 else ck (a2≠(0:Int)) (Q (i64.wrap ((i64.wrap ((i64.wrap ((i64.wrap (a0+(i64.wrap (2*a3))))-a1)).tdiv a2))+1)))) (fun J9=>if v5=true then J9 true else IR a3 0 (i64.wrap (a1-1)) (fun r10=>J9 (!r10)))) (fun J6=>if v2=true then J6 true else IR a2 1 4 (fun r7=>J6 (!r7)))) (fun J3=>if (!r1)=true then J3 true else IR a1 1 5 (fun r4=>J3 (!r4))))
def aFE:=aGz.put tt 171 Tryz.func171 [8] [] [] [sI,sI,sI,sI] [] [(false,aD)] (fun x=>sH x.1 x.2.1 x.2.2.1 x.2.2.2.1) trivial fun _ _ h=>⟨_,h.it,by kernel_rfl⟩
structure QF (a0 a1 a2 a3 a4:Int)(Q:(aKc×Bool)->Prop):Prop where
 it:sH a0 a2 a3 a4 (fun r1=>sH a1 a2 a3 a4 (fun r2=>Q ((a0,(a1,(a2,(a3,(a4,(r1,r2)))))),(decide (0<r1))&&(decide (0<r2)))))
def aE5:=aFE.put tt 160 Tryz.func160 [10,11] [] [] [sI,sI,sI,sI,sI] [] [(true,aJz),(false,.bool)] (fun x=>QF x.1 x.2.1 x.2.2.1 x.2.2.2.1 x.2.2.2.2.1) trivial fun _ _ h=>⟨_,h.it,by kernel_rfl⟩
structure EQ (a0 a1:Int)(a2:List Int)(Q:(oV×Int)->Prop):Prop where
 it:wW a0 (fun r1=>if (((!r1)||(decide (128<a1)))||(decide (a1<(-128))))=true then Q ((([]:List Int),(0,([]:List Int))),3)else j7 a2 (fun r2=>if (!r2)=true then Q ((([]:List Int),(0,([]:List Int))),1)else o5 a2 (fun r3=>ck ((0:Int)<=r3/\((4:Nat):Int)*r3<=70368744177664) (Q ((a2,(a1,List.replicate (r3).toNat (0:Int))),0)))))
def aDz:=aE5.put tt 161 Tryz.func161 [6,7] [] [] [sI,sI,sZ aD] [(.p .f .n)] [(true,tI),(false,aD)] (fun x=>EQ x.1 x.2.1 x.2.2.1) trivial fun _ _ h=>⟨_,h.it,by kernel_rfl⟩
structure B6 (a0:aLt)(Q:(Int×Int)->Prop):Prop where
 it:sH a0.1 a0.2.2.1 a0.2.2.2.1 a0.2.2.2.2 (fun r1=>sH a0.2.1 a0.2.2.1 a0.2.2.2.1 a0.2.2.2.2 (fun r2=>Q (r1,r2)))
def UD:=aDz.put tt 187 Tryz.func187 [2,3] [] [] [.agg [lI,lI,lI,lI,lI]] [] [(false,aD),(false,aD)] (fun x=>B6 (x.1.1,(x.1.2.1,(x.1.2.2.1,(x.1.2.2.2.1,x.1.2.2.2.2.1))))) trivial fun _ _ h=>⟨_,h.it,by kernel_rfl⟩
structure wG (a0 a1 a2:Int)(Q:Bool->Prop):Prop where
 it:Q ((decide (a1<=a0))&&(decide (a0<=a2)))
def aHA:=UD.put tt 188 Tryz.func188 [6] [] [] [sI,sI,sI] [] [(false,.bool)] (fun x=>wG x.1 x.2.1 x.2.2.1) trivial fun _ _ h=>⟨_,h.it,by kernel_rfl⟩
structure I5 (a0 a1:Int)(Q:(Nat×Nat)->Prop):Prop where
 it:wG a0 (-1000) 1000 (fun r1=>jn (fun v2=>if v2=true then Q (0,0)else Q (floatOfInt .f64 a0,floatOfInt .f64 a1)) (fun J3=>if (!r1)=true then J3 true else wG a1 (-1000) 1000 (fun r4=>J3 (!r4))))
def aGO:=aHA.put tt 191 Tryz.func191 [4] [] [] [sI,sI] [] [(false,.cpx)] (fun x=>I5 x.1 x.2.1) trivial fun _ _ h=>⟨_,h.it,by kernel_rfl⟩
structure GI (a0:Nat)(Q:(Int×Bool)->Prop):Prop where
 it:if (!(((FloatKind.f64.format.order a0 13875379345695965184==some Ordering.gt)||(FloatKind.f64.format.order a0 13875379345695965184==some Ordering.eq))&&((FloatKind.f64.format.order a0 4652007308841189376==some Ordering.lt)||(FloatKind.f64.format.order a0 4652007308841189376==some Ordering.eq))))=true then Q (0,false)else got (floatToIntVal .f64 a0 .i64) (fun r1=>Q (r1,FloatKind.f64.format.order (floatOfInt .f64 r1) a0==some Ordering.eq))
def aBj:=aGO.put tt 193 Tryz.func193 [2,3] [] [] [.lf (.flt)] [] [(false,aD),(false,.bool)] (fun x=>GI x.1) trivial fun _ _ h=>⟨_,h.it,by kernel_rfl⟩
structure aA0 (a0:Nat×Nat)(Q:(Int×Int×Bool)->Prop):Prop where
 it:GI a0.1 (fun r1=>GI a0.2 (fun r2=>if ((!r1.2)||(!r2.2))=true then Q (0,0,false)else Q (r1.1,r2.1,true)))
def aGf:=aBj.put tt 192 Tryz.func192 [2,3,4] [] [] [.lf (.cpx)] [] [(false,aD),(false,aD),(false,.bool)] (fun x=>aA0 x.1) trivial fun _ _ h=>⟨_,h.it,by kernel_rfl⟩
structure nX (x5:Int)(K0:Int->Prop):Prop where
 it:K0 (i64.wrap (x5+1))
def lR (x0:Nat×Nat)(x1 x4 x6 x7:Int)(K0:(List bG)->Prop)(s:Int×List bG)(nx:(Int×List bG)->Prop):Prop :=
 if (decide (s.1<x4))=true then I5 x1 s.1 (fun r18=>got (cSumBits .add .f64 x0.1 x0.2 r18.1 r18.2) (fun r19=>aA0 r19 (fun r20=>jn (fun v21=>jn (fun v24=>if v24=true then ck ((s.2.length+[(i64.wrap ((i64.wrap (r20.1*x7))+r20.2.1),(x1,s.1))].length)*24<=140737488355328) (nX s.1 (fun y27=>nx (y27,(s.2++[(i64.wrap ((i64.wrap (r20.1*x7))+r20.2.1),(x1,s.1))]))))else nX s.1 (fun y28=>nx (y28,s.2))) (fun J25=>if v21=true then wG r20.2.1 0 (i64.wrap (x7-1)) (fun r26=>J25 r26)else J25 false)) (fun J22=>if r20.2.2=true then wG r20.1 0 (i64.wrap (x6-1)) (fun r23=>J22 r23)else J22 false))))else K0 s.2
structure sM (x0:Nat×Nat)(x1 x4 x6 x7:Int)(K0:(List bG)->Prop)(s:Int×List bG):Prop where
 it:Go.Mach.Loop (lR x0 x1 x4 x6 x7 K0) s
def iA (x0:Nat×Nat)(x1 x3 x4 x5:Int)(K0:(List bG)->Prop)(s:Int×List bG)(nx:(Int×List bG)->Prop):Prop :=
 if (decide (s.1<x1))=true then sM x0 s.1 x5 x3 x4 (fun y18=>nx (i64.wrap (s.1+1),y18)) (0,s.2)else K0 s.2
structure zY (x0:Nat×Nat)(x1 x3 x4 x5:Int)(K0:(List bG)->Prop)(s:Int×List bG):Prop where
 it:Go.Mach.Loop (iA x0 x1 x3 x4 x5 K0) s
structure qW (a0:aLt)(a1 a2:Int)(Q:(List bG)->Prop):Prop where
 it:I5 a0.2.2.2.1 0 (fun r1=>I5 a1 a2 (fun r2=>got (cMulBits r1.1 r1.2 r2.1 r2.2) (fun r3=>I5 a0.2.2.2.2 a0.2.2.2.2 (fun r4=>got (cSumBits .sub .f64 r3.1 r3.2 r4.1 r4.2) (fun r5=>zY r5 a0.2.2.1 a0.1 a0.2.1 a0.2.2.1 (fun y19=>Q y19) (0,([]:List bG)))))))
def NI:Ent:=⟨[3,7,8,28,29],[sPt 0,aDV,.lf (.cpx),sI,sI],[.box [lI,lI,lI,lI,lI] false],fun⟨⟨_,_,a,b,c,_⟩,⟨⟨d,e,f,_,_,_⟩,_⟩⟩ k=>zY a b d e f (fun y20=>k (.exit 0) ⟨[(7,.own 0)],[.lst true bN y20 false]⟩) (c,([]:List bG))⟩
def N1:Ent:=⟨[3,7,8,9,28,29,33,34],[sPt 0,sC (.own 1),.lf (.cpx),sI,sI,sI,sI,sI],[.box [lI,lI,lI,lI,lI] false,.lst true bN false],fun⟨⟨_,_,a,b,c,d,e,f,_⟩,⟨⟨g,i,j,l,m,_⟩,n,_⟩⟩ k=>sM a b e g i (fun y21=>k (.exit 2) ⟨[(3,.ptr 0 0),(7,.own 1),(8,.pl (.complex .f64 a.1 a.2)),(28,vI c),(29,vI d)],[.box [vI g,vI i,vI j,vI l,vI m] false,.lst true bN y21 false]⟩) (f,n)⟩
def NC:Ent:=⟨[3,7,8,9,28,29,33,34],[sPt 0,sC (.own 1),.lf (.cpx),sI,sI,sI,sI,sI],[.box [lI,lI,lI,lI,lI] false,.lst true bN false],fun⟨⟨_,_,a,b,c,d,e,f,_⟩,⟨⟨g,i,j,l,m,_⟩,n,_⟩⟩ k=>nX f (fun y22=>k .normal ⟨[(3,.ptr 0 0),(7,.own 1),(8,.pl (.complex .f64 a.1 a.2)),(9,vI b),(28,vI c),(29,vI d),(33,vI e),(34,vI y22)],[.box [vI g,vI i,vI j,vI l,vI m] false,.lst true bN n false]⟩)⟩
def PZ:=aGf.put tt 189 Tryz.func189 [6] [(122,[⟨7,none,false,bN⟩]),(31334,[⟨7,none,false,bN⟩])] [(122,NI),(31334,N1),(501351,NC)] [.agg [lI,lI,lI,lI,lI],sI,sI] [] [(false,(.slc bN))] (fun x=>qW (x.1.1,(x.1.2.1,(x.1.2.2.1,(x.1.2.2.2.1,x.1.2.2.2.2.1)))) x.2.1 x.2.2.1) ⟨fun _ _ hs ⟨⟨_,_,a,b,c,_⟩,⟨⟨d,e,f,g,i,_⟩,_⟩⟩ _ h=>fD hs (fun y=>⟨[(3,.ptr 0 0),(7,.own 1),(8,.pl (.complex .f64 a.1 a.2)),(28,vI b),(29,vI y.1)],[.box [vI d,vI e,vI f,vI g,vI i] false,.lst true bN y.2 false]⟩) (c,([]:List bG)) h.it,fun _ _ hs ⟨⟨_,_,a,b,c,d,e,f,_⟩,⟨⟨g,i,j,l,m,_⟩,n,_⟩⟩ _ h=>aH hs (fun y=>⟨⟨(),(),a,b,c,d,e,y.1,()⟩,⟨⟨g,i,j,l,m,()⟩,y.2,()⟩⟩) (f,n) h.it,fun _ _ hs ⟨⟨_,_,_,_,_,_,_,_,_⟩,⟨⟨_,_,_,_,_,_⟩,_,_⟩⟩ _ h=>aN hs h.it,trivial⟩ fun _ _ h=>⟨_,h.it,by kernel_rfl⟩
structure C8 (a0 a1 a2 a3 a4 a5 a6:Int)(Q:(List bG)->Prop):Prop where
 it:B6 (a0,(a1,(a4,(a5,a6)))) (fun r1=>jn (fun v2=>jn (fun v5=>if v5=true then Q ([]:List bG)else qW (a0,(a1,(a4,(a5,a6)))) a2 a3 (fun r8=>Q r8)) (fun J6=>if v2=true then J6 true else wG a3 0 (i64.wrap (r1.2-1)) (fun r7=>J6 (!r7)))) (fun J3=>if ((decide (r1.1<1))||(decide (r1.2<1)))=true then J3 true else wG a2 0 (i64.wrap (r1.1-1)) (fun r4=>J3 (!r4))))
def ZC:=PZ.put tt 172 Tryz.func172 [14] [] [] [sI,sI,sI,sI,sI,sI,sI] [] [(false,(.slc bN))] (fun x=>C8 x.1 x.2.1 x.2.2.1 x.2.2.2.1 x.2.2.2.2.1 x.2.2.2.2.2.1 x.2.2.2.2.2.2.1) trivial fun _ _ h=>⟨_,h.it,by kernel_rfl⟩
structure MX (a0:aKc)(a1 a2:Int)(Q:(List bG)->Prop):Prop where
 it:C8 a0.1 a0.2.1 a1 a2 a0.2.2.1 a0.2.2.2.1 a0.2.2.2.2.1 (fun r1=>Q r1)
def UK:=ZC.put tt 162 Tryz.func162 [6] [] [] [.agg [lI,lI,lI,lI,lI,lI,lI],sI,sI] [] [(false,(.slc bN))] (fun x=>MX (x.1.1,(x.1.2.1,(x.1.2.2.1,(x.1.2.2.2.1,(x.1.2.2.2.2.1,(x.1.2.2.2.2.2.1,x.1.2.2.2.2.2.2.1)))))) x.2.1 x.2.2.1) trivial fun _ _ h=>⟨_,h.it,by kernel_rfl⟩
structure VU (a0:List Int)(a1 a2:Int)(Q:(aME×Bool)->Prop):Prop where
 it:if ((a0.length:Int) != 4)=true then Q ((0,(0,(0,(0,(0,0))))),false)else ck (aF 2 a0.length) (ck (aF 3 a0.length) (sH (a0.getD 2 0) a1 a2 0 (fun r1=>sH (a0.getD 3 0) a1 a2 0 (fun r2=>Q ((a0.getD 2 0,(a0.getD 3 0,(a1,(a2,(r1,r2))))),(decide (0<r1))&&(decide (0<r2)))))))
def aFF:=UK.put tt 106 Tryz.func106 [6,7] [] [] [sZ aD,sI,sI] [] [(true,aFz),(false,.bool)] (fun x=>VU x.1 x.2.1 x.2.2.1) trivial fun _ _ h=>⟨_,h.it,by kernel_rfl⟩
structure aCh (a0:Int)(Q:Int->Prop):Prop where
 it:ck (2≠(0:Int)) (Q (i64.wrap ((i64.wrap ((a0).tdiv 2))*2)))
def aFh:=aFF.put tt 163 Tryz.func163 [2] [] [] [sI] [] [(false,aD)] (fun x=>aCh x.1) trivial fun _ _ h=>⟨_,h.it,by kernel_rfl⟩
structure AX (a0:oV)(Q:Bool->Prop):Prop where
 it:j7 a0.1 (fun r1=>jn (fun v2=>jn (fun v5=>Q v5) (fun J6=>if v2=true then EU a0.2.1 128 (fun r7=>J6 r7)else J6 false)) (fun J3=>if r1=true then o5 a0.1 (fun r4=>J3 ((a0.2.2.length:Int)==r4))else J3 false))
def YB:=aFh.put tt 101 Tryz.func101 [2] [] [] [.agg XX] [] [(false,.bool)] (fun x=>AX (x.1.1,(x.1.2.1,x.1.2.2.1))) trivial fun _ _ h=>⟨_,h.it,by kernel_rfl⟩
def qQ:ByteArray:=⟨#[0,1,2,2,3,3,3,3,4,4,4,4,4,4,4,4,5,5,5,5,5,5,5,5,5,5,5,5,5,5,5,5,6,6,6,6,6,6,6,6,6,6,6,6,6,6,6,6,6,6,6,6,6,6,6,6,6,6,6,6,6,6,6,6,7,7,7,7,7,7,7,7,7,7,7,7,7,7,7,7,7,7,7,7,7,7,7,7,7,7,7,7,7,7,7,7,7,7,7,7,7,7,7,7,7,7,7,7,7,7,7,7,7,7,7,7,7,7,7,7,7,7,7,7,7,7,7,7,8,8,8,8,8,8,8,8,8,8,8,8,8,8,8,8,8,8,8,8,8,8,8,8,8,8,8,8,8,8,8,8,8,8,8,8,8,8,8,8,8,8,8,8,8,8,8,8,8,8,8,8,8,8,8,8,8,8,8,8,8,8,8,8,8,8,8,8,8,8,8,8,8,8,8,8,8,8,8,8,8,8,8,8,8,8,8,8,8,8,8,8,8,8,8,8,8,8,8,8,8,8,8,8,8,8,8,8,8,8,8,8,8,8,8,8,8,8,8,8,8,8,8,8,8,8,8,8]⟩
structure qT (x0 x1:Int)(K0:Int->Prop):Prop where
 it:ck ((0:Int)<=(u8.wrap x0)/\(u8.wrap x0)<(qQ.size:Int)) (K0 (i64.wrap (x1+(i64.wrap ((qQ.data.toList.getD (u8.wrap x0).toNat 0).toNat:Int)))))
structure rB (x0 x1:Int)(K0:Int->Prop):Prop where
 it:if (decide (256<=x0))=true then ck ((0:Int)<=8) (qT ((x0).fdiv (2 ^ (min ((8:Int)).toNat (u64).bits))) (i64.wrap (x1+8)) (fun y1=>K0 y1))else qT x0 x1 (fun y2=>K0 y2)
structure qY (x0 x1:Int)(K0:Int->Prop):Prop where
 it:if (decide (65536<=x0))=true then ck ((0:Int)<=16) (rB ((x0).fdiv (2 ^ (min ((16:Int)).toNat (u64).bits))) (i64.wrap (x1+16)) (fun y1=>K0 y1))else rB x0 x1 (fun y2=>K0 y2)
structure CC (a0:Int)(Q:Int->Prop):Prop where
 it:if (decide (4294967296<=a0))=true then ck ((0:Int)<=32) (qY ((a0).fdiv (2 ^ (min ((32:Int)).toNat (u64).bits))) 32 (fun y3=>Q y3))else qY a0 0 (fun y4=>Q y4)
def RY:Ent:=⟨[0,2],[.lf (.int .u64),sI],[],fun⟨⟨a,b,_⟩,_⟩ k=>qY a b (fun y5=>k .ret ⟨[(2,vI y5)],[]⟩)⟩
def SH:Ent:=⟨[0,2],[.lf (.int .u64),sI],[],fun⟨⟨a,b,_⟩,_⟩ k=>rB a b (fun y6=>k .ret ⟨[(2,vI y6)],[]⟩)⟩
def SV:Ent:=⟨[0,2],[.lf (.int .u64),sI],[],fun⟨⟨a,b,_⟩,_⟩ k=>qT a b (fun y7=>k .ret ⟨[(2,vI y7)],[]⟩)⟩
def UR:=YB.put tt 185 Tryz.func185 [2] [] [(7,RY),(15,SH),(31,SV)] [.lf (.int .u64)] [] [(false,aD)] (fun x=>CC x.1) ⟨fun _ _ hs ⟨⟨_,_,_⟩,_⟩ _ h=>aN hs h.it,fun _ _ hs ⟨⟨_,_,_⟩,_⟩ _ h=>aN hs h.it,fun _ _ hs ⟨⟨_,_,_⟩,_⟩ _ h=>aN hs h.it,trivial⟩ fun _ _ h=>⟨_,h.it,by kernel_rfl⟩
structure SS (a0:Int)(Q:Int->Prop):Prop where
 it:xQ a0 (fun r1=>CC (u64.wrap (aQ r1 (i64.wrap (0-r1)))) (fun r2=>Q r2))
def aDU:=UR.put tt 165 Tryz.func165 [2] [] [] [sI] [] [(false,aD)] (fun x=>SS x.1) trivial fun _ _ h=>⟨_,h.it,by kernel_rfl⟩
def sU (x1:List Int)(x2:Int)(K0:Int->Prop)(s:Int×Int)(nx:(Int×Int)->Prop):Prop :=
 if (decide (s.2<x2))=true then ck (aF s.2 x1.length) (SS (i64.wrap (x1.getD ((s.2).toNat) 0)) (fun r2=>nx (aQ s.1 r2,i64.wrap (s.2+1))))else K0 s.1
structure MM (x1:List Int)(x2:Int)(K0:Int->Prop)(s:Int×Int):Prop where
 it:Go.Mach.Loop (sU x1 x2 K0) s
structure KT (a0:oV)(Q:Int->Prop):Prop where
 it:AX a0 (fun r1=>if (!r1)=true then Q 0 else MM a0.2.2 (a0.2.2.length:Int) (fun y3=>Q y3) (0,0))
def YD:Ent:=⟨[3,10,11,12],[sI,sZ aY,sI,sI],[],fun⟨⟨a,b,c,d,_⟩,_⟩ k=>MM b c (fun y4=>k (.exit 0) ⟨[(3,vI y4)],[]⟩) (a,d)⟩
def aAO:=aDU.put tt 102 Tryz.func102 [2] [] [(122,YD)] [.agg XX] [] [(false,aD)] (fun x=>KT (x.1.1,(x.1.2.1,x.1.2.2.1))) ⟨fun _ _ hs ⟨⟨a,b,c,d,_⟩,_⟩ _ h=>aH hs (fun y=>⟨⟨y.1,b,c,y.2,()⟩,()⟩) (a,d) h.it,trivial⟩ fun _ _ h=>⟨_,h.it,by kernel_rfl⟩
structure cC (a0:List Int)(Q:(List Int)->Prop):Prop where
 it:nq a0 (Q ([]:List Int)) (ck ((([]:List Int).length+a0.length)*8<=140737488355328) (Q (([]:List Int)++a0)))
def KP:=aAO.put tt 28 Tryz.func28 [2] [] [] [sZ aD] [] [(false,(.slc aD))] (fun x=>cC x.1) trivial fun _ _ h=>⟨_,h.it,by kernel_rfl⟩
structure IV (a0:Int)(Q:Int->Prop):Prop where
 it:ck ((0:Int)<=30) (ck ((0:Int)<=27) (ck ((0:Int)<=31) (Q (u64.wrap ((BitVec.ofInt (u64).bits (u64.wrap ((u64.wrap ((BitVec.ofInt (u64).bits (u64.wrap ((u64.wrap ((BitVec.ofInt (u64).bits (u64.wrap (a0+11400714819323198485)) ^^^ BitVec.ofInt (u64).bits ((u64.wrap (a0+11400714819323198485)).fdiv (2 ^ (min ((30:Int)).toNat (u64).bits)))).toNat:Nat))*13787848793156543929)) ^^^ BitVec.ofInt (u64).bits ((u64.wrap ((u64.wrap ((BitVec.ofInt (u64).bits (u64.wrap (a0+11400714819323198485)) ^^^ BitVec.ofInt (u64).bits ((u64.wrap (a0+11400714819323198485)).fdiv (2 ^ (min ((30:Int)).toNat (u64).bits)))).toNat:Nat))*13787848793156543929)).fdiv (2 ^ (min ((27:Int)).toNat (u64).bits)))).toNat:Nat))*10723151780598845931)) ^^^ BitVec.ofInt (u64).bits ((u64.wrap ((u64.wrap ((BitVec.ofInt (u64).bits (u64.wrap ((u64.wrap ((BitVec.ofInt (u64).bits (u64.wrap (a0+11400714819323198485)) ^^^ BitVec.ofInt (u64).bits ((u64.wrap (a0+11400714819323198485)).fdiv (2 ^ (min ((30:Int)).toNat (u64).bits)))).toNat:Nat))*13787848793156543929)) ^^^ BitVec.ofInt (u64).bits ((u64.wrap ((u64.wrap ((BitVec.ofInt (u64).bits (u64.wrap (a0+11400714819323198485)) ^^^ BitVec.ofInt (u64).bits ((u64.wrap (a0+11400714819323198485)).fdiv (2 ^ (min ((30:Int)).toNat (u64).bits)))).toNat:Nat))*13787848793156543929)).fdiv (2 ^ (min ((27:Int)).toNat (u64).bits)))).toNat:Nat))*10723151780598845931)).fdiv (2 ^ (min ((31:Int)).toNat (u64).bits)))).toNat:Nat)))))
def aGc:=KP.put tt 168 Tryz.func168 [2] [] [] [.lf (.int .u64)] [] [(false,(.int .u64))] (fun x=>IV x.1) trivial fun _ _ h=>⟨_,h.it,by kernel_rfl⟩
structure YU (a0 a1 a2:Int)(Q:Int->Prop):Prop where
 it:IV a0 (fun r1=>IV (u64.wrap ((BitVec.ofInt (u64).bits r1 ^^^ BitVec.ofInt (u64).bits a1).toNat:Nat)) (fun r2=>IV (u64.wrap ((BitVec.ofInt (u64).bits r2 ^^^ BitVec.ofInt (u64).bits a2).toNat:Nat)) (fun r3=>Q r3)))
def aI0:=aGc.put tt 104 Tryz.func104 [6] [] [] [.lf (.int .u64),.lf (.int .u64),.lf (.int .u64)] [] [(false,(.int .u64))] (fun x=>YU x.1 x.2.1 x.2.2.1) trivial fun _ _ h=>⟨_,h.it,by kernel_rfl⟩
structure OA (a0:Int)(Q:Int->Prop):Prop where
 it:lP a0 0 62 (fun r1=>Q r1)
def aCC:=aI0.put tt 166 Tryz.func166 [2] [] [] [sI] [] [(false,aD)] (fun x=>OA x.1) trivial fun _ _ h=>⟨_,h.it,by kernel_rfl⟩
structure JU (a0 a1 a2:Int)(Q:Int->Prop):Prop where
 it:OA a1 (fun r1=>xQ a0 (fun r2=>ck ((0:Int)<=r1) (ck ((0:Int)<=r1) (Q ((i64.wrap (r2+(i64.wrap (u64.wrap ((BitVec.ofInt (u64).bits a2 &&& BitVec.ofInt (u64).bits (u64.wrap ((u64.wrap (1*2 ^ (min (r1).toNat (u64).bits)))-1))).toNat:Nat))))).fdiv (2 ^ (min (r1).toNat (i64).bits)))))))
def aBK:=aCC.put tt 103 Tryz.func103 [6] [] [] [sI,sI,.lf (.int .u64)] [] [(false,aD)] (fun x=>JU x.1 x.2.1 x.2.2.1) trivial fun _ _ h=>⟨_,h.it,by kernel_rfl⟩
structure OY (a0 a1:Int)(Q:Int->Prop):Prop where
 it:lP a1 1 32 (fun r1=>ck ((0:Int)<=(i64.wrap (r1-1))) (xQ a0 (fun r2=>jJ r2 (i64.wrap (0-(i64.wrap ((i64.wrap (1*2 ^ (min (i64.wrap (r1-1)).toNat (i64).bits)))-1)))) (i64.wrap ((i64.wrap (1*2 ^ (min (i64.wrap (r1-1)).toNat (i64).bits)))-1)) (fun r3=>Q r3))))
def aBt:=aBK.put tt 105 Tryz.func105 [4] [] [] [sI,sI] [] [(false,aD)] (fun x=>OY x.1 x.2.1) trivial fun _ _ h=>⟨_,h.it,by kernel_rfl⟩
def s4 (x0 x1 x2 x3:Int)(x4:List Int)(x5:Int)(K0:(List Int)->Prop)(s:Int×List Int)(nx:(Int×List Int)->Prop):Prop :=
 if (decide (s.1<x5))=true then ck (aF s.1 x4.length) (YU x1 x2 (u64.wrap s.1) (fun r8=>JU (i64.wrap (x4.getD ((s.1).toNat) 0)) x3 r8 (fun r9=>OY r9 x0 (fun r10=>ck ((s.2.length+[i8.wrap r10].length)*1<=140737488355328) (nx (i64.wrap (s.1+1),s.2++[i8.wrap r10]))))))else K0 s.2
structure MP (x0 x1 x2 x3:Int)(x4:List Int)(x5:Int)(K0:(List Int)->Prop)(s:Int×List Int):Prop where
 it:Go.Mach.Loop (s4 x0 x1 x2 x3 x4 x5 K0) s
structure DX (a0:oV)(a1 a2 a3:Int)(Q:(aZ×Int)->Prop):Prop where
 it:AX a0 (fun r1=>if (((!r1)||(decide (a1<2)))||(decide (8<a1)))=true then Q ((([]:List Int),(0,([]:List Int))),1)else KT a0 (fun r2=>cC a0.1 (fun r3=>EU (i64.wrap (a0.2.1+(aQ 0 (i64.wrap (r2-(i64.wrap (a1-1))))))) 64 (fun r4=>if (!r4)=true then Q ((([]:List Int),(0,([]:List Int))),3)else MP a1 a2 a3 (aQ 0 (i64.wrap (r2-(i64.wrap (a1-1))))) a0.2.2 (a0.2.2.length:Int) (fun y11=>Q ((r3,((i64.wrap (a0.2.1+(aQ 0 (i64.wrap (r2-(i64.wrap (a1-1))))))),y11)),0)) (0,([]:List Int))))))
def YC:Ent:=⟨[1,2,3,8,10,11,47,48,49],[sI,.lf (.int .u64),.lf (.int .u64),sPt 0,sI,sPt 1,sZ aY,sI,sI],[dG,.box [.cst (.own 2),lI,eE] false,oQa],fun⟨⟨a,b,c,_,d,_,e,f,g,_⟩,⟨⟨_,i,_⟩,⟨_,j,_⟩,l,_⟩⟩ k=>MP a b c d e f (fun y12=>k (.exit 0) ⟨[(8,.ptr 0 0),(11,.ptr 1 0)],[.box [aK,vI i,aK] false,.box [.own 2,vI j,.own 3] false,.lst true aD l false,.lst true aL y12 false]⟩) (g,([]:List Int))⟩
def aAI:=aBt.put tt 59 Tryz.func59 [8,9] [(506,[⟨11,some 2,false,aL⟩])] [(506,YC)] [.agg XX,sI,.lf (.int .u64),.lf (.int .u64)] [] [(true,aX),(false,aD)] (fun x=>DX (x.1.1,(x.1.2.1,x.1.2.2.1)) x.2.1 x.2.2.1 x.2.2.2.1) ⟨fun _ _ hs ⟨⟨a,b,c,_,d,_,e,f,g,_⟩,⟨⟨_,i,_⟩,⟨_,j,_⟩,l,_⟩⟩ _ h=>fD hs (fun y=>⟨[(1,vI a),(2,vK .u64 b),(3,vK .u64 c),(8,.ptr 0 0),(10,vI d),(11,.ptr 1 0),(47,vZ aY e),(48,vI f),(49,vI y.1)],[.box [aK,vI i,aK] false,.box [.own 2,vI j,.own 3] false,.lst true aD l false,.lst true aL y.2 false]⟩) (g,([]:List Int)) h.it,trivial⟩ fun _ _ h=>⟨_,h.it,by kernel_rfl⟩
def jV (x0 x1:List Int)(x2:Int)(K0 K1:Unit->Prop)(s:Int)(nx:Int->Prop):Prop :=
 if (decide (s<x2))=true then ck (aF s x0.length) (ck (aF s x1.length) (if ((x0.getD ((s).toNat) 0) != (x1.getD ((s).toNat) 0))=true then K1 ()else nx (i64.wrap (s+1))))else K0 ()
structure xX (x0 x1:List Int)(x2:Int)(K0 K1:Unit->Prop)(s:Int):Prop where
 it:Go.Mach.Loop (jV x0 x1 x2 K0 K1) s
structure lC (a0 a1:List Int)(Q:Bool->Prop):Prop where
 it:if ((a0.length:Int) != (a1.length:Int))=true then Q false else xX a0 a1 (a0.length:Int) (fun _=>Q true) (fun _=>Q false) 0
def JK:Ent:=⟨[0,1,12,13],[sZ aD,sZ aD,sI,sI],[],fun⟨⟨a,b,c,d,_⟩,_⟩ k=>xX a b c (fun _=>k (.exit 0) ⟨[],[]⟩) (fun _=>k .ret ⟨[(4,vB false)],[]⟩) d⟩
def KB:=aAI.put tt 57 Tryz.func57 [4] [] [(58,JK)] [sZ aD,sZ aD] [] [(false,.bool)] (fun x=>lC x.1 x.2.1) ⟨fun _ _ hs ⟨⟨a,b,c,d,_⟩,_⟩ _ h=>aH hs (fun y=>⟨⟨a,b,c,y,()⟩,()⟩) d h.it,trivial⟩ fun _ _ h=>⟨_,h.it,by kernel_rfl⟩
structure iZ (a0 a1:List Int)(Q:Bool->Prop):Prop where
 it:lC a0 a1 (fun r1=>Q r1)
def aEO:=KB.put tt 27 Tryz.func27 [4] [] [] [sZ aD,sZ aD] [] [(false,.bool)] (fun x=>iZ x.1 x.2.1) trivial fun _ _ h=>⟨_,h.it,by kernel_rfl⟩
def DP (x0 x3:Int)(x4:List Int)(x6:Int)(x7:List Int)(x9:Int)(K0:(List Int)->Prop)(s:Int×List Int)(nx:(Int×List Int)->Prop):Prop :=
 if (decide (s.1<x0))=true then ck (aF s.1 x4.length) (BE (i64.wrap (x4.getD ((s.1).toNat) 0)) x3 x9 (fun r9=>ck (aF s.1 x7.length) (BE (i64.wrap (x7.getD ((s.1).toNat) 0)) x6 x9 (fun r10=>ck ((s.2.length+[i32.wrap (i64.wrap (r9+r10))].length)*4<=140737488355328) (nx (i64.wrap (s.1+1),s.2++[i32.wrap (i64.wrap (r9+r10))]))))))else K0 s.2
structure ZA (x0 x3:Int)(x4:List Int)(x6:Int)(x7:List Int)(x9:Int)(K0:(List Int)->Prop)(s:Int×List Int):Prop where
 it:Go.Mach.Loop (DP x0 x3 x4 x6 x7 x9 K0) s
structure UI (a0 a1:aZ)(Q:(oV×Int)->Prop):Prop where
 it:dO a0 (fun r1=>jn (fun v2=>if v2=true then Q ((([]:List Int),(0,([]:List Int))),1)else iZ a0.1 a1.1 (fun r5=>if (!r5)=true then Q ((([]:List Int),(0,([]:List Int))),2)else cC a0.1 (fun r6=>ZA (a0.2.2.length:Int) a0.2.1 a0.2.2 a1.2.1 a1.2.2 (aQ (aU a0.2.1 a1.2.1) (i64.wrap ((aQ a0.2.1 a1.2.1)-12))) (fun y11=>Q ((r6,((aQ (aU a0.2.1 a1.2.1) (i64.wrap ((aQ a0.2.1 a1.2.1)-12))),y11)),0)) (0,([]:List Int))))) (fun J3=>if (!r1)=true then J3 true else dO a1 (fun r4=>J3 (!r4))))
def aG9:Ent:=⟨[2,3,4,6,45,46],[sPt 0,sPt 1,sPt 2,sPt 3,sI,sI],[bT,bT,dG,.box [.cst (.own 4),lI,eE] false,oQa],fun⟨⟨_,_,_,_,a,b,_⟩,⟨⟨_,d,e,_⟩,⟨_,g,i,_⟩,⟨_,j,_⟩,⟨_,l,_⟩,m,_⟩⟩ k=>ZA a d e g i l (fun y12=>k (.exit 1) ⟨[(4,.ptr 0 0),(6,.ptr 1 0)],[.box [aK,vI j,aK] false,.box [.own 2,vI l,.own 3] false,.lst true aD m false,.lst true aY y12 false]⟩) (b,([]:List Int))⟩
def aIn:=aEO.put tt 100 Tryz.func100 [4,5] [(122,[⟨6,some 2,false,aY⟩])] [(122,aG9)] [.agg cR,.agg cR] [] [(true,tI),(false,aD)] (fun x=>UI (x.1.1,(x.1.2.1,x.1.2.2.1)) (x.2.1.1,(x.2.1.2.1,x.2.1.2.2.1))) ⟨fun _ _ hs ⟨⟨_,_,_,_,a,b,_⟩,⟨⟨c,d,e,_⟩,⟨f,g,i,_⟩,⟨_,j,_⟩,⟨_,l,_⟩,m,_⟩⟩ _ h=>fD hs (fun y=>⟨[(2,.ptr 0 0),(3,.ptr 1 0),(4,.ptr 2 0),(6,.ptr 3 0),(45,vI a),(46,vI y.1)],[.box [vZ aD c,vI d,vZ aL e] false,.box [vZ aD f,vI g,vZ aL i] false,.box [aK,vI j,aK] false,.box [.own 4,vI l,.own 5] false,.lst true aD m false,.lst true aY y.2 false]⟩) (b,([]:List Int)) h.it,trivial⟩ fun _ _ h=>⟨_,h.it,by kernel_rfl⟩
structure mV (a0:List Int)(Q:(List Int)->Prop):Prop where
 it:nq a0 (Q ([]:List Int)) (ck ((([]:List Int).length+a0.length)*1<=140737488355328) (Q (([]:List Int)++a0)))
def HG:=aIn.put tt 29 Tryz.func29 [2] [] [] [sZ aL] [] [(false,(.slc aL))] (fun x=>mV x.1) trivial fun _ _ h=>⟨_,h.it,by kernel_rfl⟩
structure JO (a0:aZ)(a1:List Int)(Q:(aZ×Int)->Prop):Prop where
 it:dO a0 (fun r1=>jn (fun v2=>if v2=true then Q ((([]:List Int),(0,([]:List Int))),1)else o5 a1 (fun r5=>if (r5 != (a0.2.2.length:Int))=true then Q ((([]:List Int),(0,([]:List Int))),2)else cC a1 (fun r6=>mV a0.2.2 (fun r7=>Q ((r6,(a0.2.1,r7)),0))))) (fun J3=>if (!r1)=true then J3 true else j7 a1 (fun r4=>J3 (!r4))))
def aDe:=HG.put tt 111 Tryz.func111 [4,5] [] [] [.agg cR,sZ aD] [] [(true,aX),(false,aD)] (fun x=>JO (x.1.1,(x.1.2.1,x.1.2.2.1)) x.2.1) trivial fun _ _ h=>⟨_,h.it,by kernel_rfl⟩
structure V2 (a0:aZ)(Q:(aZ×Int)->Prop):Prop where
 it:dO a0 (fun r1=>if (!r1)=true then Q ((([]:List Int),(0,([]:List Int))),1)else ck (aF 0 a0.1.length) (o5 a0.1 (fun r2=>ck (aF 0 a0.1.length) (ck ((a0.1.getD 0 0)≠(0:Int)) (JO a0 [a0.1.getD 0 0,i64.wrap ((r2).tdiv (a0.1.getD 0 0))] (fun r3=>Q (r3.1,r3.2)))))))
def aFX:=aDe.put tt 62 Tryz.func62 [2,3] [] [] [.agg cR] [] [(true,aX),(false,aD)] (fun x=>V2 (x.1.1,(x.1.2.1,x.1.2.2.1))) trivial fun _ _ h=>⟨_,h.it,by kernel_rfl⟩
structure rV (a0 a1 a2:Int)(Q:Bool->Prop):Prop where
 it:Q ((decide (a1<=a0))&&(decide (a0<=a2)))
def aHP:=aFX.put tt 152 Tryz.func152 [6] [] [] [sI,sI,sI] [] [(false,.bool)] (fun x=>rV x.1 x.2.1 x.2.2.1) trivial fun _ _ h=>⟨_,h.it,by kernel_rfl⟩
structure KS (a0:bG)(Q:Bool->Prop):Prop where
 it:rV a0.1 1 8 (fun r1=>jn (fun v2=>jn (fun v5=>Q v5) (fun J6=>if v2=true then rV a0.2.2 1 16 (fun r7=>J6 r7)else J6 false)) (fun J3=>if r1=true then rV a0.2.1 1 16 (fun r4=>J3 r4)else J3 false))
def ZP:=aHP.put tt 151 Tryz.func151 [2] [] [] [.agg [lI,lI,lI]] [] [(false,.bool)] (fun x=>KS (x.1.1,(x.1.2.1,x.1.2.2.1))) trivial fun _ _ h=>⟨_,h.it,by kernel_rfl⟩
structure DV (a0:l6)(Q:Bool->Prop):Prop where
 it:rV a0.2.2.1 1 5 (fun r1=>jn (fun v2=>Q v2) (fun J3=>if r1=true then rV a0.2.2.2.1 1 4 (fun r4=>J3 r4)else J3 false))
def aAJ:=ZP.put tt 183 Tryz.func183 [2] [] [] [.agg [lI,lI,lI,lI,lI,lI,lB]] [] [(false,.bool)] (fun x=>DV (x.1.1,(x.1.2.1,(x.1.2.2.1,(x.1.2.2.2.1,(x.1.2.2.2.2.1,(x.1.2.2.2.2.2.1,x.1.2.2.2.2.2.2.1))))))) trivial fun _ _ h=>⟨_,h.it,by kernel_rfl⟩
structure uM  (K0:Unit->Prop):Prop where
 it:K0 ()
structure LF (x0:Int)(x1:Bool)(x2:Int)(x3:Bool)(x9 x16:Int)(K0:(Bool×Int)->Prop):Prop where
 it:if x3=true then K0 (x1,x16)else if (x2==7)=true then rV x9 0 (i64.wrap (x0-1)) (fun r12=>K0 (r12,x9))else K0 (false,x16)
structure JX (x0:Int)(x1:Bool)(x2:Int)(x3:Bool)(x4 x5 x6 x7 x8 x9:Int)(x10:Bool)(x13 x14 x16:Int)(K0:(Bool×Int×Int×Int)->Prop):Prop where
 it:if x3=true then DV (x4,(x5,(x6,(x7,(x8,(x9,x10)))))) (fun r11=>K0 (r11,x6,x7,x16))else if (x2==5)=true then LF x0 x1 x2 (x2==5) x9 x16 (fun y12=>K0 (y12.1,x13,x14,y12.2))else LF x0 x1 x2 (x2==6) x9 x16 (fun y13=>K0 (y13.1,x13,x14,y13.2))
structure WG (a0:l6)(a1:Int)(Q:Bool->Prop):Prop where
 it:if (a0.1==1)=true then rV a0.2.1 1 4096 (fun r1=>uM (fun _=>Q (r1&&((a0.1==a0.1)&&((a0.2.1==a0.2.1)&&((a0.2.2.1==0)&&((a0.2.2.2.1==0)&&((a0.2.2.2.2.1==0)&&((a0.2.2.2.2.2.1==0)&&((a0.2.2.2.2.2.2==a0.2.2.2.2.2.2)&&(true)))))))))))else if (a0.1==2)=true then rV a0.2.1 1 8 (fun r3=>jn (fun v4=>jn (fun v7=>uM (fun _=>Q (v7&&((a0.1==a0.1)&&((a0.2.1==a0.2.1)&&((a0.2.2.1==a0.2.2.1)&&((a0.2.2.2.1==a0.2.2.2.1)&&((a0.2.2.2.2.1==a0.2.2.2.2.1)&&((a0.2.2.2.2.2.1==0)&&((a0.2.2.2.2.2.2==a0.2.2.2.2.2.2)&&(true))))))))))) (fun J8=>if v4=true then rV a0.2.2.2.2.1 0 (i64.wrap (a0.2.2.1-1)) (fun r9=>J8 r9)else J8 false)) (fun J5=>if r3=true then DV a0 (fun r6=>J5 r6)else J5 false))else if (a0.1==3)=true then JX a1 true a0.1 (a0.1==3) a0.1 a0.2.1 a0.2.2.1 a0.2.2.2.1 a0.2.2.2.2.1 a0.2.2.2.2.2.1 a0.2.2.2.2.2.2 0 0 0 (fun y14=>uM (fun _=>Q (y14.1&&((a0.1==a0.1)&&((a0.2.1==0)&&((a0.2.2.1==y14.2.1)&&((a0.2.2.2.1==y14.2.2.1)&&((a0.2.2.2.2.1==0)&&((a0.2.2.2.2.2.1==y14.2.2.2)&&((a0.2.2.2.2.2.2==false)&&(true)))))))))))else JX a1 true a0.1 (a0.1==4) a0.1 a0.2.1 a0.2.2.1 a0.2.2.2.1 a0.2.2.2.2.1 a0.2.2.2.2.2.1 a0.2.2.2.2.2.2 0 0 0 (fun y16=>uM (fun _=>Q (y16.1&&((a0.1==a0.1)&&((a0.2.1==0)&&((a0.2.2.1==y16.2.1)&&((a0.2.2.2.1==y16.2.2.1)&&((a0.2.2.2.2.1==0)&&((a0.2.2.2.2.2.1==y16.2.2.2)&&((a0.2.2.2.2.2.2==false)&&(true)))))))))))
def aDn:Ent:=⟨[2,5,6],[sPt 0,sPt 1,sB],[.box [lI,lI,lI,lI,lI,lI,lB] false,.box [lI,lI,lI,lI,lI,lI,lB] false],fun⟨⟨_,_,a,_⟩,⟨⟨b,c,d,e,f,g,i,_⟩,⟨j,l,m,n,o,p,q,_⟩,_⟩⟩ k=>uM (fun _=>k .ret ⟨[(4,vB (a&&((b==j)&&((c==l)&&((d==m)&&((e==n)&&((f==o)&&((g==p)&&((i==q)&&(true))))))))))],[]⟩)⟩
def aDc:Ent:=⟨[1,2,5,6,11,42],[sI,sPt 0,sPt 1,sB,sI,sB],[.box [lI,lI,lI,lI,lI,lI,lB] false,.box [lI,lI,lI,lI,lI,lI,lB] false],fun⟨⟨a,_,_,b,c,d,_⟩,⟨⟨e,f,g,i,j,l,m,_⟩,⟨n,o,p,q,t,u,w,_⟩,_⟩⟩ k=>JX a b c d e f g i j l m p q u (fun y19=>k .normal ⟨[(2,.ptr 0 0),(5,.ptr 1 0),(6,vB y19.1)],[.box [vI e,vI f,vI g,vI i,vI j,vI l,vB m] false,.box [vI n,vI o,vI y19.2.1,vI y19.2.2.1,vI t,vI y19.2.2.2,vB w] false]⟩)⟩
def aEJ:Ent:=⟨[1,2,5,6,11,53],[sI,sPt 0,sPt 1,sB,sI,sB],[.box [lI,lI,lI,lI,lI,lI,lB] false,.box [lI,lI,lI,lI,lI,lI,lB] false],fun⟨⟨a,_,_,b,c,d,_⟩,⟨⟨e,f,g,i,j,l,m,_⟩,⟨n,o,p,q,t,u,w,_⟩,_⟩⟩ k=>LF a b c d l u (fun y20=>k .normal ⟨[(2,.ptr 0 0),(5,.ptr 1 0),(6,vB y20.1)],[.box [vI e,vI f,vI g,vI i,vI j,vI l,vB m] false,.box [vI n,vI o,vI p,vI q,vI t,vI y20.2,vB w] false]⟩)⟩
def aFu:=aAJ.put tt 153 Tryz.func153 [4] [] [(31,aDn),(3935,aDc),(15743,aEJ)] [.agg [lI,lI,lI,lI,lI,lI,lB],sI] [] [(false,.bool)] (fun x=>WG (x.1.1,(x.1.2.1,(x.1.2.2.1,(x.1.2.2.2.1,(x.1.2.2.2.2.1,(x.1.2.2.2.2.2.1,x.1.2.2.2.2.2.2.1)))))) x.2.1) ⟨fun _ _ hs ⟨⟨_,_,_,_⟩,⟨⟨_,_,_,_,_,_,_,_⟩,⟨_,_,_,_,_,_,_,_⟩,_⟩⟩ _ h=>aN hs h.it,fun _ _ hs ⟨⟨_,_,_,_,_,_,_⟩,⟨⟨_,_,_,_,_,_,_,_⟩,⟨_,_,_,_,_,_,_,_⟩,_⟩⟩ _ h=>aN hs h.it,fun _ _ hs ⟨⟨_,_,_,_,_,_,_⟩,⟨⟨_,_,_,_,_,_,_,_⟩,⟨_,_,_,_,_,_,_,_⟩,_⟩⟩ _ h=>aN hs h.it,trivial⟩ fun _ _ h=>⟨_,h.it,by kernel_rfl⟩
def yI (x0:List l6)(x1:Int)(K0 K1:Unit->Prop)(s:Int)(nx:Int->Prop):Prop :=
 if (decide (s<x1))=true then ck (aF s x0.length) (WG (x0.getD ((s).toNat) (0,(0,(0,(0,(0,(0,false))))))) s (fun r5=>if (!r5)=true then K1 ()else nx (i64.wrap (s+1))))else K0 ()
structure UF (x0:List l6)(x1:Int)(K0 K1:Unit->Prop)(s:Int):Prop where
 it:Go.Mach.Loop (yI x0 x1 K0 K1) s
structure VW (a0:QV)(Q:Bool->Prop):Prop where
 it:KS a0.1 (fun r1=>jn (fun v2=>if v2=true then Q false else UF a0.2 (a0.2.length:Int) (fun _=>Q true) (fun _=>Q false) 0) (fun J3=>if (!r1)=true then J3 true else rV (a0.2.length:Int) 1 12 (fun r4=>J3 (!r4))))
def aDT:Ent:=⟨[17,18,19],[sZ cM,sI,sI],[],fun⟨⟨a,b,c,_⟩,_⟩ k=>UF a b (fun _=>k (.exit 0) ⟨[],[]⟩) (fun _=>k .ret ⟨[(2,vB false)],[]⟩) c⟩
def aE7:=aFu.put tt 91 Tryz.func91 [2] [] [(58,aDT)] [.agg [lI,lI,lI,lZ cM]] [] [(false,.bool)] (fun x=>VW ((x.1.1,(x.1.2.1,x.1.2.2.1)),x.1.2.2.2.1)) ⟨fun _ _ hs ⟨⟨a,b,c,_⟩,_⟩ _ h=>aH hs (fun y=>⟨⟨a,b,y,()⟩,()⟩) c h.it,trivial⟩ fun _ _ h=>⟨_,h.it,by kernel_rfl⟩
def rP (x1:List Int)(x2:Int)(K0:Int->Prop)(s:Int×Int)(nx:(Int×Int)->Prop):Prop :=
 if (decide (s.2<x2))=true then ck (aF s.2 x1.length) (nx (i64.wrap (s.1*(x1.getD ((s.2).toNat) 0)),i64.wrap (s.2+1)))else K0 s.1
structure IK (x1:List Int)(x2:Int)(K0:Int->Prop)(s:Int×Int):Prop where
 it:Go.Mach.Loop (rP x1 x2 K0) s
structure sG (a0:List Int)(Q:Int->Prop):Prop where
 it:IK a0 (a0.length:Int) (fun y1=>Q y1) (1,0)
def V7:Ent:=⟨[3,6,7,8],[sI,sZ aD,sI,sI],[],fun⟨⟨a,b,c,d,_⟩,_⟩ k=>IK b c (fun y2=>k (.exit 0) ⟨[(3,vI y2)],[]⟩) (a,d)⟩
def XW:=aE7.put tt 92 Tryz.func92 [2] [] [(58,V7)] [sZ aD] [] [(false,aD)] (fun x=>sG x.1) ⟨fun _ _ hs ⟨⟨a,b,c,d,_⟩,_⟩ _ h=>aH hs (fun y=>⟨⟨y.1,b,c,y.2,()⟩,()⟩) (a,d) h.it,trivial⟩ fun _ _ h=>⟨_,h.it,by kernel_rfl⟩
structure uB (a0:List Int)(a1:Int)(a2:l6)(Q:(List Int)->Prop):Prop where
 it:if ((a0.length:Int) != 3)=true then Q ([]:List Int)else ck (aF 1 a0.length) (sH (a0.getD 1 0) a2.2.2.1 a2.2.2.2.1 a2.2.2.2.2.1 (fun r1=>ck (aF 2 a0.length) (sH (a0.getD 2 0) a2.2.2.1 a2.2.2.2.1 a2.2.2.2.2.1 (fun r2=>if ((r1==0)||(r2==0))=true then Q ([]:List Int)else ck ([a1,r1,r2]≠[]) (Q [a1,r1,r2])))))
def aB0:=XW.put tt 154 Tryz.func154 [6] [] [] [sZ aD,sI,.agg [lI,lI,lI,lI,lI,lI,lB]] [.z] [(false,(.slc aD))] (fun x=>uB x.1 x.2.1 (x.2.2.1.1,(x.2.2.1.2.1,(x.2.2.1.2.2.1,(x.2.2.1.2.2.2.1,(x.2.2.1.2.2.2.2.1,(x.2.2.1.2.2.2.2.2.1,x.2.2.1.2.2.2.2.2.2.1))))))) trivial fun _ _ h=>⟨_,h.it,by kernel_rfl⟩
structure PK (a0:l6)(a1:List (List Int))(Q:(List Int)->Prop):Prop where
 it:ck (aF (i64.wrap ((a1.length:Int)-1)) a1.length) (if (a0.1==1)=true then if (((a1.getD ((i64.wrap ((a1.length:Int)-1)).toNat) []).length:Int)==1)=true then ck ([a0.2.1]≠[]) (Q [a0.2.1])else Q ([]:List Int)else if (a0.1==2)=true then uB (a1.getD ((i64.wrap ((a1.length:Int)-1)).toNat) []) a0.2.1 a0 (fun r1=>nz r1 (Q ([]:List Int)) (ck (r1≠[]) (Q r1)))else if (a0.1==3)=true then if (a0.1==3)=true then ck (aF 0 (a1.getD ((i64.wrap ((a1.length:Int)-1)).toNat) []).length) (uB (a1.getD ((i64.wrap ((a1.length:Int)-1)).toNat) []) ((a1.getD ((i64.wrap ((a1.length:Int)-1)).toNat) []).getD 0 0) a0 (fun r2=>nz r2 (Q ([]:List Int)) (ck (r2≠[]) (Q r2))))else if (a0.1==5)=true then cC (a1.getD ((i64.wrap ((a1.length:Int)-1)).toNat) []) (fun r3=>ck (r3≠[]) (Q r3))else if (a0.1==6)=true then sG (a1.getD ((i64.wrap ((a1.length:Int)-1)).toNat) []) (fun r4=>ck ([r4]≠[]) (Q [r4]))else if (a0.1==7)=true then ck (aF a0.2.2.2.2.2.1 a1.length) (lC (a1.getD ((a0.2.2.2.2.2.1).toNat) []) (a1.getD ((i64.wrap ((a1.length:Int)-1)).toNat) []) (fun r5=>if r5=true then cC (a1.getD ((i64.wrap ((a1.length:Int)-1)).toNat) []) (fun r6=>ck (r6≠[]) (Q r6))else Q ([]:List Int)))else Q ([]:List Int)else if (a0.1==4)=true then ck (aF 0 (a1.getD ((i64.wrap ((a1.length:Int)-1)).toNat) []).length) (uB (a1.getD ((i64.wrap ((a1.length:Int)-1)).toNat) []) ((a1.getD ((i64.wrap ((a1.length:Int)-1)).toNat) []).getD 0 0) a0 (fun r7=>nz r7 (Q ([]:List Int)) (ck (r7≠[]) (Q r7))))else if (a0.1==5)=true then cC (a1.getD ((i64.wrap ((a1.length:Int)-1)).toNat) []) (fun r8=>ck (r8≠[]) (Q r8))else if (a0.1==6)=true then sG (a1.getD ((i64.wrap ((a1.length:Int)-1)).toNat) []) (fun r9=>ck ([r9]≠[]) (Q [r9]))else if (a0.1==7)=true then ck (aF a0.2.2.2.2.2.1 a1.length) (lC (a1.getD ((a0.2.2.2.2.2.1).toNat) []) (a1.getD ((i64.wrap ((a1.length:Int)-1)).toNat) []) (fun r10=>if r10=true then cC (a1.getD ((i64.wrap ((a1.length:Int)-1)).toNat) []) (fun r11=>ck (r11≠[]) (Q r11))else Q ([]:List Int)))else Q ([]:List Int))
def aCA:=aB0.put tt 93 Tryz.func93 [4] [] [] [.agg [lI,lI,lI,lI,lI,lI,lB],sZ (.slc aD)] [.z] [(false,(.slc aD))] (fun x=>PK (x.1.1,(x.1.2.1,(x.1.2.2.1,(x.1.2.2.2.1,(x.1.2.2.2.2.1,(x.1.2.2.2.2.2.1,x.1.2.2.2.2.2.2.1)))))) x.2.1) trivial fun _ _ h=>⟨_,h.it,by kernel_rfl⟩
def tD (x0:List l6)(x1:Int)(K0:(List (List Int))->Prop)(K1:(Int×Int)->Prop)(s:Int×List (List Int))(nx:(Int×List (List Int))->Prop):Prop :=
 if (decide (s.1<x1))=true then ck (aF s.1 x0.length) (PK (x0.getD ((s.1).toNat) (0,(0,(0,(0,(0,(0,false))))))) s.2 (fun r3=>nz r3 (K1 (i64.wrap (s.1+1),2)) (nq r3 (K1 (i64.wrap (s.1+1),2)) (sG r3 (fun r4=>if (decide (8192<r4))=true then K1 (i64.wrap (s.1+1),1)else ck ((s.2.length+[r3].length)*24<=140737488355328) (nx (i64.wrap (s.1+1),s.2++[r3])))))))else K0 s.2
structure MU (x0:List l6)(x1:Int)(K0:(List (List Int))->Prop)(K1:(Int×Int)->Prop)(s:Int×List (List Int)):Prop where
 it:Go.Mach.Loop (tD x0 x1 K0 K1) s
structure yH (a0:QV)(Q:((List (List Int))×Int×Int)->Prop):Prop where
 it:VW a0 (fun r1=>if (!r1)=true then Q (([]:List (List Int)),0,1)else ck (aF 0 [([a0.1.1,a0.1.2.1,a0.1.2.2]:List Int)].length) (sG ([a0.1.1,a0.1.2.1,a0.1.2.2]:List Int) (fun r2=>if (decide (8192<r2))=true then Q (([]:List (List Int)),0,1)else MU a0.2 (a0.2.length:Int) (fun y5=>Q (y5,0,0)) (fun y6=>Q (([]:List (List Int)),y6.1,y6.2)) (0,[([a0.1.1,a0.1.2.1,a0.1.2.2]:List Int)]))))
def X6:Ent:=⟨[5,21,22,23],[sC (.own 0),sZ cM,sI,sI],[.lst true (.slc aD) false],fun⟨⟨_,a,b,c,_⟩,⟨d,_⟩⟩ k=>MU a b (fun y7=>k (.exit 0) ⟨[(5,.own 0)],[.lst true (.slc aD) y7 false]⟩) (fun y8=>k .ret ⟨[(2,aK),(3,vI y8.1),(4,vI y8.2)],[]⟩) (c,d)⟩
def aBX:=aCA.put tt 48 Tryz.func48 [2,3,4] [] [(250,X6)] [.agg [lI,lI,lI,lZ cM]] [] [(false,(.slc (.slc aD))),(false,aD),(false,aD)] (fun x=>yH ((x.1.1,(x.1.2.1,x.1.2.2.1)),x.1.2.2.2.1)) ⟨fun _ _ hs ⟨⟨_,a,b,c,_⟩,⟨d,_⟩⟩ _ h=>aH hs (fun y=>⟨⟨(),a,b,y.1,()⟩,⟨y.2,()⟩⟩) (c,d) h.it,trivial⟩ fun _ _ h=>⟨_,h.it,by kernel_rfl⟩
structure U9 (a0:l6)(a1:List Int)(Q:((List Int)×Int)->Prop):Prop where
 it:if (a0.1==1)=true then ck (aF 0 a1.length) (ck ([a0.2.1,a1.getD 0 0]≠[]) (Q ([a0.2.1,a1.getD 0 0],a0.2.1)))else if (a0.1==2)=true then ck (aF 0 a1.length) (ck ([a0.2.1,a1.getD 0 0,a0.2.2.1,a0.2.2.1]≠[]) (Q ([a0.2.1,a1.getD 0 0,a0.2.2.1,a0.2.2.1],a0.2.1)))else Q (([]:List Int),0)
def aGD:=aBX.put tt 94 Tryz.func94 [4,5] [] [] [.agg [lI,lI,lI,lI,lI,lI,lB],sZ aD] [.z] [(false,(.slc aD)),(false,aD)] (fun x=>U9 (x.1.1,(x.1.2.1,(x.1.2.2.1,(x.1.2.2.2.1,(x.1.2.2.2.2.1,(x.1.2.2.2.2.2.1,x.1.2.2.2.2.2.2.1)))))) x.2.1) trivial fun _ _ h=>⟨_,h.it,by kernel_rfl⟩
structure OP (a0:QV)(a1:Int)(Q:((List Int)×Int)->Prop):Prop where
 it:yH a0 (fun r1=>if (((r1.2.2 != 0)||(decide (a1<1)))||(decide ((a0.2.length:Int)<a1)))=true then Q (([]:List Int),0)else ck (aF (i64.wrap (a1-1)) a0.2.length) (ck (aF (i64.wrap (a1-1)) r1.1.length) (U9 (a0.2.getD ((i64.wrap (a1-1)).toNat) (0,(0,(0,(0,(0,(0,false))))))) (r1.1.getD ((i64.wrap (a1-1)).toNat) []) (fun r2=>nz r2.1 (j7 ([]:List Int) (fun r3=>if (!r3)=true then Q (([]:List Int),0)else Q (([]:List Int),r2.2))) (j7 r2.1 (fun r4=>if (!r4)=true then Q (([]:List Int),0)else ck (r2.1≠[]) (Q (r2.1,r2.2))))))))
def aBl:=aGD.put tt 49 Tryz.func49 [4,5] [] [] [.agg [lI,lI,lI,lZ cM],sI] [.z] [(false,(.slc aD)),(false,aD)] (fun x=>OP ((x.1.1,(x.1.2.1,x.1.2.2.1)),x.1.2.2.2.1) x.2.1) trivial fun _ _ h=>⟨_,h.it,by kernel_rfl⟩
structure tR (a0:gJ)(Q:Bool->Prop):Prop where
 it:Q ((((i64.wrap ((i64.wrap ((i64.wrap ((i64.wrap ((a0.1.1.length:Int)+(a0.1.2.2.length:Int)))+(a0.2.1.length:Int)))+(a0.2.2.1.length:Int)))+(a0.2.2.2.2.length:Int)))==0)&&(a0.1.2.1==0))&&(a0.2.2.2.1==0))
def aBw:=aBl.put tt 50 Tryz.func50 [2] [] [] [.agg [lZ aD,lI,lZ aL,lZ aY,lZ aD,lI,lZ aL]] [] [(false,.bool)] (fun x=>tR ((x.1.1,(x.1.2.1,x.1.2.2.1)),(x.1.2.2.2.1,(x.1.2.2.2.2.1,(x.1.2.2.2.2.2.1,x.1.2.2.2.2.2.2.1))))) trivial fun _ _ h=>⟨_,h.it,by kernel_rfl⟩
structure KZ (a0:Int)(Q:Bool->Prop):Prop where
 it:Q ((decide (a0<(-1048576)))||(decide (1048576<a0)))
def Y7:=aBw.put tt 52 Tryz.func52 [2] [] [] [.lf (.int .i32)] [] [(false,.bool)] (fun x=>KZ x.1) trivial fun _ _ h=>⟨_,h.it,by kernel_rfl⟩
def cO (x0:List Int)(x1:Int)(K0:Unit->Prop)(K1:Int->Prop)(s:Int)(nx:Int->Prop):Prop :=
 if (decide (s<x1))=true then ck (aF s x0.length) (KZ (x0.getD ((s).toNat) 0) (fun r1=>if r1=true then K1 s else nx (i64.wrap (s+1))))else K0 ()
structure gU (x0:List Int)(x1:Int)(K0:Unit->Prop)(K1:Int->Prop)(s:Int):Prop where
 it:Go.Mach.Loop (cO x0 x1 K0 K1) s
structure jF (a0:List Int)(Q:Int->Prop):Prop where
 it:gU a0 (a0.length:Int) (fun _=>Q (-1)) (fun y3=>Q y3) 0
def pL:Ent:=⟨[0,1,7,8],[sZ aY,sC (.fn 52 []),sI,sI],[],fun⟨⟨a,_,b,c,_⟩,_⟩ k=>gU a b (fun _=>k (.exit 0) ⟨[],[]⟩) (fun y5=>k .ret ⟨[(4,vI y5)],[]⟩) c⟩
def qA:=Y7.putX tt 95 Tryz.func95 [4] [] [(26,pL)] [sZ aY,.fn 52 []] [] [(false,aD)] (fun x=>jF x.1) [52] none false 0 hI0 ⟨fun _ _ hs ⟨⟨a,_,b,c,_⟩,_⟩ _ h=>aH hs (fun y=>⟨⟨a,(),b,y,()⟩,()⟩) c h.it,trivial⟩ fun _ _ h=>⟨_,h.it,by kernel_rfl⟩
structure bW (a0:List Int)(Q:Bool->Prop):Prop where
 it:jF a0 (fun r1=>Q (decide (0<=r1)))
def oU:=qA.putX tt 51 Tryz.func51 [4] [] [] [sZ aY,.fn 52 []] [] [(false,.bool)] (fun x=>bW x.1) [52] none false 0 hI0 trivial fun _ _ h=>⟨_,h.it,by kernel_rfl⟩
structure iT (x2:Int)(K0:Int->Prop):Prop where
 it:K0 (i64.wrap (x2+1))
def wQ (x0:List gJ)(x1 x3 x4 x5:Int)(x6:List l6)(K0 K1:Unit->Prop)(s:Int)(nx:Int->Prop):Prop :=
 if (decide (s<x1))=true then ck (aF s x0.length) (OP ((x3,(x4,x5)),x6) (i64.wrap (s+1)) (fun r2=>nz r2.1 (ck (aF s x6.length) (tR (x0.getD ((s).toNat) (([],(0,[])),([],([],(0,[]))))) (fun r3=>if (((!r3)||(((x6.getD ((s).toNat) (0,(0,(0,(0,(0,(0,false))))))).1)==1))||(((x6.getD ((s).toNat) (0,(0,(0,(0,(0,(0,false))))))).1)==2))=true then K1 ()else iT s (fun y4=>nx y4)))) (nq r2.1 (ck (aF s x6.length) (tR (x0.getD ((s).toNat) (([],(0,[])),([],([],(0,[]))))) (fun r5=>if (((!r5)||(((x6.getD ((s).toNat) (0,(0,(0,(0,(0,(0,false))))))).1)==1))||(((x6.getD ((s).toNat) (0,(0,(0,(0,(0,(0,false))))))).1)==2))=true then K1 ()else iT s (fun y6=>nx y6)))) (dO ((x0.getD ((s).toNat) (([],(0,[])),([],([],(0,[]))))).1) (fun r7=>jn (fun v8=>jn (fun v11=>jn (fun v14=>jn (fun v17=>if v17=true then K1 ()else iT s (fun y20=>nx y20)) (fun J18=>if (v14||(((((x0.getD ((s).toNat) (([],(0,[])),([],([],(0,[]))))).2).1).length:Int) != (((((x0.getD ((s).toNat) (([],(0,[])),([],([],(0,[]))))).1).2).2).length:Int)))=true then J18 true else bW (((x0.getD ((s).toNat) (([],(0,[])),([],([],(0,[]))))).2).1) (fun r19=>J18 r19))) (fun J15=>if v11=true then J15 true else iZ ((((x0.getD ((s).toNat) (([],(0,[])),([],([],(0,[]))))).2).2).1) [r2.2] (fun r16=>J15 (!r16)))) (fun J12=>if v8=true then J12 true else iZ (((x0.getD ((s).toNat) (([],(0,[])),([],([],(0,[]))))).1).1) r2.1 (fun r13=>J12 (!r13)))) (fun J9=>if (!r7)=true then J9 true else dO (((x0.getD ((s).toNat) (([],(0,[])),([],([],(0,[]))))).2).2) (fun r10=>J9 (!r10))))))))else K0 ()
structure RH (x0:List gJ)(x1 x3 x4 x5:Int)(x6:List l6)(K0 K1:Unit->Prop)(s:Int):Prop where
 it:Go.Mach.Loop (wQ x0 x1 x3 x4 x5 x6 K0 K1) s
structure KQ (a0:QV)(a1:List gJ)(Q:Bool->Prop):Prop where
 it:yH a0 (fun r1=>if ((r1.2.2 != 0)||((a1.length:Int) != (a0.2.length:Int)))=true then Q false else RH a1 (a1.length:Int) a0.1.1 a0.1.2.1 a0.1.2.2 a0.2 (fun _=>Q true) (fun _=>Q false) 0)
def aBz:Ent:=⟨[2,29,30,31],[sPt 0,sZ dJ,sI,sI],[.box [lI,lI,lI,lZ cM] false],fun⟨⟨_,a,b,c,_⟩,⟨⟨d,e,f,g,_⟩,_⟩⟩ k=>RH a b d e f g (fun _=>k (.exit 0) ⟨[],[]⟩) (fun _=>k .ret ⟨[(4,vB false)],[]⟩) c⟩
def aBi:Ent:=⟨[2,29,30,31],[sPt 0,sZ dJ,sI,sI],[.box [lI,lI,lI,lZ cM] false],fun⟨⟨_,a,b,c,_⟩,⟨⟨d,e,f,g,_⟩,_⟩⟩ k=>iT c (fun y25=>k .normal ⟨[(2,.ptr 0 0),(29,vZ dJ a),(30,vI b),(31,vI y25)],[.box [vI d,vI e,vI f,vZ cM g] false]⟩)⟩
def aDR:=oU.put tt 25 Tryz.func25 [4] [] [(58,aBz),(935,aBi)] [.agg [lI,lI,lI,lZ cM],sZ dJ] [] [(false,.bool)] (fun x=>KQ ((x.1.1,(x.1.2.1,x.1.2.2.1)),x.1.2.2.2.1) x.2.1) ⟨fun _ _ hs ⟨⟨_,a,b,c,_⟩,⟨⟨d,e,f,g,_⟩,_⟩⟩ _ h=>aH hs (fun y=>⟨⟨(),a,b,y,()⟩,⟨⟨d,e,f,g,()⟩,()⟩⟩) c h.it,fun _ _ hs ⟨⟨_,_,_,_,_⟩,⟨⟨_,_,_,_,_⟩,_⟩⟩ _ h=>aN hs h.it,trivial⟩ fun _ _ h=>⟨_,h.it,by kernel_rfl⟩
structure AU (a0 a1 a2:Int)(Q:Bool->Prop):Prop where
 it:Q ((decide (a1<=a0))&&(decide (a0<=a2)))
def aDN:=aDR.put tt 24 Tryz.func24 [6] [] [] [sI,sI,sI] [] [(false,.bool)] (fun x=>AU x.1 x.2.1 x.2.2.1) trivial fun _ _ h=>⟨_,h.it,by kernel_rfl⟩
structure yP (a0 a1 a2:Int)(Q:Int->Prop):Prop where
 it:AU a0 0 1000000 (fun r1=>jn (fun v2=>jn (fun v5=>if v5=true then Q 0 else Q (u64.wrap (i64.wrap ((i64.wrap ((i64.wrap (a0*1024))+(i64.wrap (a1*16))))+a2)))) (fun J6=>if v2=true then J6 true else AU a2 0 15 (fun r7=>J6 (!r7)))) (fun J3=>if (!r1)=true then J3 true else AU a1 0 12 (fun r4=>J3 (!r4))))
def V9:=aDN.put tt 23 Tryz.func23 [6] [] [] [sI,sI,sI] [] [(false,(.int .u64))] (fun x=>yP x.1 x.2.1 x.2.2.1) trivial fun _ _ h=>⟨_,h.it,by kernel_rfl⟩
structure CB  (K0:Unit->Prop):Prop where
 it:K0 ()
structure MA (a0:l6)(a1:gJ)(a2:List aZ)(Q:(oV×Bool×Int)->Prop):Prop where
 it:ck (aF (i64.wrap ((a2.length:Int)-1)) a2.length) (if (a0.1==1)=true then HD (a2.getD ((i64.wrap ((a2.length:Int)-1)).toNat) ([],(0,[]))) a1.1 a1.2.2 (fun r1=>CB (fun _=>Q (r1.1,true,r1.2)))else if (a0.1==2)=true then False else if (a0.1==4)=true then False else if (a0.1==7)=true then ck (aF a0.2.2.2.2.2.1 a2.length) (UI (a2.getD ((i64.wrap ((a2.length:Int)-1)).toNat) ([],(0,[]))) (a2.getD ((a0.2.2.2.2.2.1).toNat) ([],(0,[]))) (fun r3=>CB (fun _=>Q (r3.1,true,r3.2))))else Q ((([]:List Int),(0,([]:List Int))),false,0))
def YM:Ent:=⟨[6,10,11],[sPt 0,sPt 1,sI],[dG,.box [.cst (.own 2),lI,.cst (.own 3)] false,oQa,oQc],fun⟨⟨_,_,a,_⟩,⟨_,⟨_,c,_⟩,d,e,_⟩⟩ k=>CB (fun _=>k .ret ⟨[(6,.ptr 0 0),(7,vB true),(8,vI a)],[.box [.own 1,vI c,.own 2] false,.lst true aD d false,.lst true aY e false]⟩)⟩
def ZL:=V9.put tt 58 Tryz.func58 [6,7,8] [] [(63,YM)] [.agg [lI,lI,lI,lI,lI,lI,lB],.agg [lZ aD,lI,lZ aL,lZ aY,lZ aD,lI,lZ aL],sZ aX] [] [(true,tI),(false,.bool),(false,aD)] (fun x=>MA (x.1.1,(x.1.2.1,(x.1.2.2.1,(x.1.2.2.2.1,(x.1.2.2.2.2.1,(x.1.2.2.2.2.2.1,x.1.2.2.2.2.2.2.1)))))) ((x.2.1.1,(x.2.1.2.1,x.2.1.2.2.1)),(x.2.1.2.2.2.1,(x.2.1.2.2.2.2.1,(x.2.1.2.2.2.2.2.1,x.2.1.2.2.2.2.2.2.1)))) x.2.2.1) ⟨fun _ _ hs ⟨⟨_,_,_,_⟩,⟨_,⟨_,_,_⟩,_,_,_⟩⟩ _ h=>aN hs h.it,trivial⟩ fun _ _ h=>⟨_,h.it,by kernel_rfl⟩
structure IL  (K0:Unit->Prop):Prop where
 it:K0 ()
structure GZ (a0:l6)(a1:gJ)(a2:List aZ)(a3 a4:Int)(Q:(aZ×(List Int)×Int)->Prop):Prop where
 it:MA a0 a1 a2 (fun r1=>if (r1.2.2 != 0)=true then Q ((([]:List Int),(0,([]:List Int))),([]:List Int),r1.2.2)else if r1.2.1=true then DX r1.1 8 a3 a4 (fun r2=>Q (r2.1,([]:List Int),r2.2))else ck (aF (i64.wrap ((a2.length:Int)-1)) a2.length) (if (a0.1==3)=true then False else if (a0.1==5)=true then False else V2 (a2.getD ((i64.wrap ((a2.length:Int)-1)).toNat) ([],(0,[]))) (fun r3=>IL (fun _=>Q (r3.1,([]:List Int),r3.2)))))
def VQ:Ent:=⟨[10,15,18],[sPt 0,sI,sPt 1],[dG,.box [.cst (.own 2),lI,.cst (.own 3)] false,oQa,.lst true aL false],fun⟨⟨_,a,_⟩,⟨_,⟨_,c,_⟩,d,e,_⟩⟩ k=>IL (fun _=>k .ret ⟨[(10,.ptr 0 0),(11,aK),(12,vI a)],[.box [.own 1,vI c,.own 2] false,.lst true aD d false,.lst true aL e false]⟩)⟩
def YH:=ZL.put tt 30 Tryz.func30 [10,11,12] [] [(63,VQ)] [.agg [lI,lI,lI,lI,lI,lI,lB],.agg [lZ aD,lI,lZ aL,lZ aY,lZ aD,lI,lZ aL],sZ aX,.lf (.int .u64),.lf (.int .u64)] [] [(true,aX),(false,(.slc aD)),(false,aD)] (fun x=>GZ (x.1.1,(x.1.2.1,(x.1.2.2.1,(x.1.2.2.2.1,(x.1.2.2.2.2.1,(x.1.2.2.2.2.2.1,x.1.2.2.2.2.2.2.1)))))) ((x.2.1.1,(x.2.1.2.1,x.2.1.2.2.1)),(x.2.1.2.2.2.1,(x.2.1.2.2.2.2.1,(x.2.1.2.2.2.2.2.1,x.2.1.2.2.2.2.2.2.1)))) x.2.2.1 x.2.2.2.1 x.2.2.2.2.1) ⟨fun _ _ hs ⟨⟨_,_,_⟩,⟨_,⟨_,_,_⟩,_,_,_⟩⟩ _ h=>aN hs h.it,trivial⟩ fun _ _ h=>⟨_,h.it,by kernel_rfl⟩
def uH (x0:List gJ)(x1 x2:Int)(x3:List l6)(x4:Int)(K0:((List aZ)×List (List Int))->Prop)(K1:(Int×Int)->Prop)(s:Int×(List aZ)×List (List Int))(nx:(Int×(List aZ)×List (List Int))->Prop):Prop :=
 if (decide (s.1<x4))=true then ck (aF s.1 x3.length) (ck (aF s.1 x0.length) (yP x2 (i64.wrap (s.1+1)) 0 (fun r13=>GZ (x3.getD ((s.1).toNat) (0,(0,(0,(0,(0,(0,false))))))) (x0.getD ((s.1).toNat) (([],(0,[])),([],([],(0,[]))))) s.2.1 x1 r13 (fun r14=>if (r14.2.2 != 0)=true then K1 (i64.wrap (s.1+1),r14.2.2)else ck ((s.2.1.length+[r14.1].length)*56<=140737488355328) (ck ((s.2.2.length+[r14.2.1].length)*24<=140737488355328) (nx (i64.wrap (s.1+1),s.2.1++[r14.1],s.2.2++[r14.2.1])))))))else K0 (s.2.1,s.2.2)
structure EP (x0:List gJ)(x1 x2:Int)(x3:List l6)(x4:Int)(K0:((List aZ)×List (List Int))->Prop)(K1:(Int×Int)->Prop)(s:Int×(List aZ)×List (List Int)):Prop where
 it:Go.Mach.Loop (uH x0 x1 x2 x3 x4 K0 K1) s
structure O4 (a0:QV)(a1:List gJ)(a2:aZ)(a3 a4:Int)(Q:(aJo×Int×Int)->Prop):Prop where
 it:AU a4 0 1000000 (fun r1=>jn (fun v2=>jn (fun v5=>if v5=true then Q ((([]:List aZ),([]:List (List Int))),0,1)else jn (fun v8=>if v8=true then Q ((([]:List aZ),([]:List (List Int))),0,2)else cC a2.1 (fun r11=>mV a2.2.2 (fun r12=>EP a1 a3 a4 a0.2 (a0.2.length:Int) (fun y15=>Q (y15,0,0)) (fun y16=>Q ((([]:List aZ),([]:List (List Int))),y16.1,y16.2)) (0,[(r11,(a2.2.1,r12))],[([]:List Int)])))) (fun J9=>if ((a2.1.length:Int) != 4)=true then J9 true else ck (a2.1≠[]/\(0:Int)<=1/\(1:Int)<=(a2.1.length:Int)/\(a2.1.length:Int)<=(a2.1.length:Int)) (iZ ((a2.1.take ((a2.1.length:Int)).toNat).drop ((1:Int)).toNat) ([a0.1.1,a0.1.2.1,a0.1.2.2]:List Int) (fun r10=>J9 (!r10))))) (fun J6=>if v2=true then J6 true else dO a2 (fun r7=>J6 (!r7)))) (fun J3=>if (!r1)=true then J3 true else KQ a0 a1 (fun r4=>J3 (!r4))))
def aAn:Ent:=⟨[1,3,4,10,13,63,64,65],[sZ dJ,.lf (.int .u64),sI,sPt 0,sPt 1,sZ cM,sI,sI],[.box [eE,eE] false,.box [.cst (.own 2),.cst (.own 3)] false,.lst true aX false,.lst true (.slc aD) false],fun⟨⟨a,b,c,_,_,d,e,f,_⟩,⟨_,_,g,i,_⟩⟩ k=>EP a b c d e (fun y17=>k (.exit 1) ⟨[(10,.ptr 0 0),(13,.ptr 1 0)],[.box [aK,aK] false,.box [.own 2,.own 3] false,.lst true aX y17.1 false,.lst true (.slc aD) y17.2 false]⟩) (fun y18=>k .ret ⟨[(10,.ptr 0 0),(11,vI y18.1),(12,vI y18.2)],[.box [aK,aK] false]⟩) (f,g,i)⟩
def aCD:=YH.put tt 10 Tryz.func10 [10,11,12] [] [(250,aAn)] [.agg [lI,lI,lI,lZ cM],sZ dJ,.agg cR,.lf (.int .u64),sI] [] [(true,aId),(false,aD),(false,aD)] (fun x=>O4 ((x.1.1,(x.1.2.1,x.1.2.2.1)),x.1.2.2.2.1) x.2.1 (x.2.2.1.1,(x.2.2.1.2.1,x.2.2.1.2.2.1)) x.2.2.2.1 x.2.2.2.2.1) ⟨fun _ _ hs ⟨⟨a,b,c,_,_,d,e,f,_⟩,⟨_,_,g,i,_⟩⟩ _ h=>aH hs (fun y=>⟨⟨a,b,c,(),(),d,e,y.1,()⟩,⟨⟨(),(),()⟩,⟨(),(),()⟩,y.2.1,y.2.2,()⟩⟩) (f,g,i) h.it,trivial⟩ fun _ _ h=>⟨_,h.it,by kernel_rfl⟩
def tZ (x1:List Int)(x2:Int)(K0 K1:Unit->Prop)(s:Int×Int)(nx:(Int×Int)->Prop):Prop :=
 if (decide (s.2<x2))=true then ck (aF s.2 x1.length) (jn (fun v1=>if v1=true then K1 ()else nx (i64.wrap (s.1*(x1.getD ((s.2).toNat) 0)),i64.wrap (s.2+1))) (fun J2=>if ((decide ((x1.getD ((s.2).toNat) 0)<1))||(decide (4096<(x1.getD ((s.2).toNat) 0))))=true then J2 true else ck ((x1.getD ((s.2).toNat) 0)≠(0:Int)) (J2 (decide ((i64.wrap (((8192:Int)).tdiv (x1.getD ((s.2).toNat) 0)))<s.1)))))else K0 ()
structure wD (x1:List Int)(x2:Int)(K0 K1:Unit->Prop)(s:Int×Int):Prop where
 it:Go.Mach.Loop (tZ x1 x2 K0 K1) s
structure bK (a0:List Int)(Q:Bool->Prop):Prop where
 it:if ((decide ((a0.length:Int)<1))||(decide (4<(a0.length:Int))))=true then Q false else wD a0 (a0.length:Int) (fun _=>Q true) (fun _=>Q false) (1,0)
def HT:Ent:=⟨[3,14,15,16],[sI,sZ aD,sI,sI],[],fun⟨⟨a,b,c,d,_⟩,_⟩ k=>wD b c (fun _=>k (.exit 0) ⟨[],[]⟩) (fun _=>k .ret ⟨[(2,vB false)],[]⟩) (a,d)⟩
def IE:=aCD.put tt 47 Tryz.func47 [2] [] [(122,HT)] [sZ aD] [] [(false,.bool)] (fun x=>bK x.1) ⟨fun _ _ hs ⟨⟨a,b,c,d,_⟩,_⟩ _ h=>aH hs (fun y=>⟨⟨y.1,b,c,y.2,()⟩,()⟩) (a,d) h.it,trivial⟩ fun _ _ h=>⟨_,h.it,by kernel_rfl⟩
def xW (x1:List Int)(x2:Int)(K0:Int->Prop)(s:Int×Int)(nx:(Int×Int)->Prop):Prop :=
 if (decide (s.2<x2))=true then ck (aF s.2 x1.length) (nx (i64.wrap (s.1*(x1.getD ((s.2).toNat) 0)),i64.wrap (s.2+1)))else K0 s.1
structure zO (x1:List Int)(x2:Int)(K0:Int->Prop)(s:Int×Int):Prop where
 it:Go.Mach.Loop (xW x1 x2 K0) s
structure cZ (a0:List Int)(Q:Int->Prop):Prop where
 it:bK a0 (fun r1=>if (!r1)=true then Q 0 else zO a0 (a0.length:Int) (fun y2=>Q y2) (1,0))
def NU:Ent:=⟨[3,9,10,11],[sI,sZ aD,sI,sI],[],fun⟨⟨a,b,c,d,_⟩,_⟩ k=>zO b c (fun y3=>k (.exit 0) ⟨[(3,vI y3)],[]⟩) (a,d)⟩
def PU:=IE.put tt 40 Tryz.func40 [2] [] [(122,NU)] [sZ aD] [] [(false,aD)] (fun x=>cZ x.1) ⟨fun _ _ hs ⟨⟨a,b,c,d,_⟩,_⟩ _ h=>aH hs (fun y=>⟨⟨y.1,b,c,y.2,()⟩,()⟩) (a,d) h.it,trivial⟩ fun _ _ h=>⟨_,h.it,by kernel_rfl⟩
structure cP (a0 a1 a2:Int)(Q:Bool->Prop):Prop where
 it:Q ((decide (a1<=a0))&&(decide (a0<=a2)))
def QY:=PU.put tt 127 Tryz.func127 [6] [] [] [sI,sI,sI] [] [(false,.bool)] (fun x=>cP x.1 x.2.1 x.2.2.1) trivial fun _ _ h=>⟨_,h.it,by kernel_rfl⟩
structure t6 (a0:bG)(Q:Bool->Prop):Prop where
 it:cP a0.1 1 8 (fun r1=>jn (fun v2=>jn (fun v5=>Q v5) (fun J6=>if v2=true then cP a0.2.2 1 16 (fun r7=>J6 r7)else J6 false)) (fun J3=>if r1=true then cP a0.2.1 1 16 (fun r4=>J3 r4)else J3 false))
def JR:=QY.put tt 126 Tryz.func126 [2] [] [] [.agg [lI,lI,lI]] [] [(false,.bool)] (fun x=>t6 (x.1.1,(x.1.2.1,x.1.2.2.1))) trivial fun _ _ h=>⟨_,h.it,by kernel_rfl⟩
structure eD  (K0:Unit->Prop):Prop where
 it:K0 ()
structure nK (x0:Int)(x1:Bool)(x2:Int)(x3:Bool)(x9 x16:Int)(K0:(Bool×Int)->Prop)(K1:Unit->Prop):Prop where
 it:if x3=true then K0 (x1,x16)else if (x2==7)=true then cP x9 0 (i64.wrap (x0-1)) (fun r18=>K0 (r18,x9))else K1 ()
structure jC (x0:Int)(x1:Bool)(x2:Int)(x3:Bool)(x6 x7 x9 x13 x14 x16:Int)(K0:(Bool×Int×Int×Int)->Prop)(K1:Unit->Prop):Prop where
 it:if x3=true then cP x6 1 5 (fun r14=>jn (fun v15=>K0 (v15,x6,x7,x16)) (fun J16=>if r14=true then cP x7 1 4 (fun r17=>J16 r17)else J16 false))else if (x2==5)=true then nK x0 x1 x2 (x2==5) x9 x16 (fun y18=>K0 (y18.1,x13,x14,y18.2)) (fun _=>K1 ())else nK x0 x1 x2 (x2==6) x9 x16 (fun y20=>K0 (y20.1,x13,x14,y20.2)) (fun _=>K1 ())
structure pX (a0:l6)(a1:Int)(Q:Bool->Prop):Prop where
 it:if (a0.1==1)=true then cP a0.2.1 1 4096 (fun r1=>eD (fun _=>Q (r1&&((a0.1==a0.1)&&((a0.2.1==a0.2.1)&&((a0.2.2.1==0)&&((a0.2.2.2.1==0)&&((a0.2.2.2.2.1==0)&&((a0.2.2.2.2.2.1==0)&&((a0.2.2.2.2.2.2==a0.2.2.2.2.2.2)&&(true)))))))))))else if (a0.1==2)=true then cP a0.2.1 1 8 (fun r3=>jn (fun v4=>jn (fun v7=>jn (fun v10=>eD (fun _=>Q (v10&&((a0.1==a0.1)&&((a0.2.1==a0.2.1)&&((a0.2.2.1==a0.2.2.1)&&((a0.2.2.2.1==a0.2.2.2.1)&&((a0.2.2.2.2.1==a0.2.2.2.2.1)&&((a0.2.2.2.2.2.1==0)&&((a0.2.2.2.2.2.2==a0.2.2.2.2.2.2)&&(true))))))))))) (fun J11=>if v7=true then cP a0.2.2.2.2.1 0 (i64.wrap (a0.2.2.1-1)) (fun r12=>J11 r12)else J11 false)) (fun J8=>if v4=true then cP a0.2.2.2.1 1 4 (fun r9=>J8 r9)else J8 false)) (fun J5=>if r3=true then cP a0.2.2.1 1 5 (fun r6=>J5 r6)else J5 false))else if (a0.1==3)=true then jC a1 true a0.1 (a0.1==3) a0.2.2.1 a0.2.2.2.1 a0.2.2.2.2.2.1 0 0 0 (fun y22=>eD (fun _=>Q (y22.1&&((a0.1==a0.1)&&((a0.2.1==0)&&((a0.2.2.1==y22.2.1)&&((a0.2.2.2.1==y22.2.2.1)&&((a0.2.2.2.2.1==0)&&((a0.2.2.2.2.2.1==y22.2.2.2)&&((a0.2.2.2.2.2.2==false)&&(true))))))))))) (fun _=>Q false)else jC a1 true a0.1 (a0.1==4) a0.2.2.1 a0.2.2.2.1 a0.2.2.2.2.2.1 0 0 0 (fun y25=>eD (fun _=>Q (y25.1&&((a0.1==a0.1)&&((a0.2.1==0)&&((a0.2.2.1==y25.2.1)&&((a0.2.2.2.1==y25.2.2.1)&&((a0.2.2.2.2.1==0)&&((a0.2.2.2.2.2.1==y25.2.2.2)&&((a0.2.2.2.2.2.2==false)&&(true))))))))))) (fun _=>Q false)
def E3:Ent:=⟨[2,5,6],[sPt 0,sPt 1,sB],[.box [lI,lI,lI,lI,lI,lI,lB] false,.box [lI,lI,lI,lI,lI,lI,lB] false],fun⟨⟨_,_,a,_⟩,⟨⟨b,c,d,e,f,g,i,_⟩,⟨j,l,m,n,o,p,q,_⟩,_⟩⟩ k=>eD (fun _=>k .ret ⟨[(4,vB (a&&((b==j)&&((c==l)&&((d==m)&&((e==n)&&((f==o)&&((g==p)&&((i==q)&&(true))))))))))],[]⟩)⟩
def ER:Ent:=⟨[1,2,5,6,11,61],[sI,sPt 0,sPt 1,sB,sI,sB],[.box [lI,lI,lI,lI,lI,lI,lB] false,.box [lI,lI,lI,lI,lI,lI,lB] false],fun⟨⟨a,_,_,b,c,d,_⟩,⟨⟨e,f,g,i,j,l,m,_⟩,⟨n,o,p,q,t,u,w,_⟩,_⟩⟩ k=>jC a b c d g i l p q u (fun y29=>k .normal ⟨[(2,.ptr 0 0),(5,.ptr 1 0),(6,vB y29.1)],[.box [vI e,vI f,vI g,vI i,vI j,vI l,vB m] false,.box [vI n,vI o,vI y29.2.1,vI y29.2.2.1,vI t,vI y29.2.2.2,vB w] false]⟩) (fun _=>k .ret ⟨[(4,vB false)],[]⟩)⟩
def E8:Ent:=⟨[1,2,5,6,11,78],[sI,sPt 0,sPt 1,sB,sI,sB],[.box [lI,lI,lI,lI,lI,lI,lB] false,.box [lI,lI,lI,lI,lI,lI,lB] false],fun⟨⟨a,_,_,b,c,d,_⟩,⟨⟨e,f,g,i,j,l,m,_⟩,⟨n,o,p,q,t,u,w,_⟩,_⟩⟩ k=>nK a b c d l u (fun y31=>k .normal ⟨[(2,.ptr 0 0),(5,.ptr 1 0),(6,vB y31.1)],[.box [vI e,vI f,vI g,vI i,vI j,vI l,vB m] false,.box [vI n,vI o,vI p,vI q,vI t,vI y31.2,vB w] false]⟩) (fun _=>k .ret ⟨[(4,vB false)],[]⟩)⟩
def FO:=JR.put tt 128 Tryz.func128 [4] [] [(31,E3),(3935,ER),(15743,E8)] [.agg [lI,lI,lI,lI,lI,lI,lB],sI] [] [(false,.bool)] (fun x=>pX (x.1.1,(x.1.2.1,(x.1.2.2.1,(x.1.2.2.2.1,(x.1.2.2.2.2.1,(x.1.2.2.2.2.2.1,x.1.2.2.2.2.2.2.1)))))) x.2.1) ⟨fun _ _ hs ⟨⟨_,_,_,_⟩,⟨⟨_,_,_,_,_,_,_,_⟩,⟨_,_,_,_,_,_,_,_⟩,_⟩⟩ _ h=>aN hs h.it,fun _ _ hs ⟨⟨_,_,_,_,_,_,_⟩,⟨⟨_,_,_,_,_,_,_,_⟩,⟨_,_,_,_,_,_,_,_⟩,_⟩⟩ _ h=>aN hs h.it,fun _ _ hs ⟨⟨_,_,_,_,_,_,_⟩,⟨⟨_,_,_,_,_,_,_,_⟩,⟨_,_,_,_,_,_,_,_⟩,_⟩⟩ _ h=>aN hs h.it,trivial⟩ fun _ _ h=>⟨_,h.it,by kernel_rfl⟩
def gP (x0:List l6)(x1:Int)(K0 K1:Unit->Prop)(s:Int)(nx:Int->Prop):Prop :=
 if (decide (s<x1))=true then ck (aF s x0.length) (pX (x0.getD ((s).toNat) (0,(0,(0,(0,(0,(0,false))))))) s (fun r5=>if (!r5)=true then K1 ()else nx (i64.wrap (s+1))))else K0 ()
structure tW (x0:List l6)(x1:Int)(K0 K1:Unit->Prop)(s:Int):Prop where
 it:Go.Mach.Loop (gP x0 x1 K0 K1) s
structure qB (a0:QV)(Q:Bool->Prop):Prop where
 it:t6 a0.1 (fun r1=>jn (fun v2=>if v2=true then Q false else tW a0.2 (a0.2.length:Int) (fun _=>Q true) (fun _=>Q false) 0) (fun J3=>if (!r1)=true then J3 true else cP (a0.2.length:Int) 1 12 (fun r4=>J3 (!r4))))
def D8:Ent:=⟨[17,18,19],[sZ cM,sI,sI],[],fun⟨⟨a,b,c,_⟩,_⟩ k=>tW a b (fun _=>k (.exit 0) ⟨[],[]⟩) (fun _=>k .ret ⟨[(2,vB false)],[]⟩) c⟩
def FE:=FO.put tt 77 Tryz.func77 [2] [] [(58,D8)] [.agg [lI,lI,lI,lZ cM]] [] [(false,.bool)] (fun x=>qB ((x.1.1,(x.1.2.1,x.1.2.2.1)),x.1.2.2.2.1)) ⟨fun _ _ hs ⟨⟨a,b,c,_⟩,_⟩ _ h=>aH hs (fun y=>⟨⟨a,b,y,()⟩,()⟩) c h.it,trivial⟩ fun _ _ h=>⟨_,h.it,by kernel_rfl⟩
structure fA (a0 a1 a2 a3:Int)(Q:Int->Prop):Prop where
 it:if (((((((((decide (a0<1))||(decide (16<a0)))||(decide (a1<1)))||(decide (5<a1)))||(decide (a2<1)))||(decide (4<a2)))||(decide (a3<0)))||(decide (a1<=a3)))||(decide ((i64.wrap (a0+(i64.wrap (2*a3))))<a1)))=true then Q 0 else ck (a2≠(0:Int)) (Q (i64.wrap ((i64.wrap ((i64.wrap ((i64.wrap (a0+(i64.wrap (2*a3))))-a1)).tdiv a2))+1)))
def QZ:=FE.put tt 174 Tryz.func174 [8] [] [] [sI,sI,sI,sI] [] [(false,aD)] (fun x=>fA x.1 x.2.1 x.2.2.1 x.2.2.2.1) trivial fun _ _ h=>⟨_,h.it,by kernel_rfl⟩
structure dT (a0 a1 a2 a3 a4:Int)(Q:(Int×Int)->Prop):Prop where
 it:fA a0 a2 a3 a4 (fun r1=>fA a1 a2 a3 a4 (fun r2=>Q (r1,r2)))
def KW:=QZ.put tt 115 Tryz.func115 [10,11] [] [] [sI,sI,sI,sI,sI] [] [(false,aD),(false,aD)] (fun x=>dT x.1 x.2.1 x.2.2.1 x.2.2.2.1 x.2.2.2.2.1) trivial fun _ _ h=>⟨_,h.it,by kernel_rfl⟩
def iK (x0 x1:List Int)(x2:Int)(K0 K1:Unit->Prop)(s:Int)(nx:Int->Prop):Prop :=
 if (decide (s<x2))=true then ck (aF s x0.length) (ck (aF s x1.length) (if ((x0.getD ((s).toNat) 0) != (x1.getD ((s).toNat) 0))=true then K1 ()else nx (i64.wrap (s+1))))else K0 ()
structure uO (x0 x1:List Int)(x2:Int)(K0 K1:Unit->Prop)(s:Int):Prop where
 it:Go.Mach.Loop (iK x0 x1 x2 K0 K1) s
structure bB (a0 a1:List Int)(Q:Bool->Prop):Prop where
 it:if ((a0.length:Int) != (a1.length:Int))=true then Q false else uO a0 a1 (a0.length:Int) (fun _=>Q true) (fun _=>Q false) 0
def FR:Ent:=⟨[0,1,12,13],[sZ aD,sZ aD,sI,sI],[],fun⟨⟨a,b,c,d,_⟩,_⟩ k=>uO a b c (fun _=>k (.exit 0) ⟨[],[]⟩) (fun _=>k .ret ⟨[(4,vB false)],[]⟩) d⟩
def GM:=KW.put tt 20 Tryz.func20 [4] [] [(58,FR)] [sZ aD,sZ aD] [] [(false,.bool)] (fun x=>bB x.1 x.2.1) ⟨fun _ _ hs ⟨⟨a,b,c,d,_⟩,_⟩ _ h=>aH hs (fun y=>⟨⟨a,b,c,y,()⟩,()⟩) d h.it,trivial⟩ fun _ _ h=>⟨_,h.it,by kernel_rfl⟩
structure dL (x0 x1:Int)(K0:Bool->Prop):Prop where
 it:K0 ((decide (0<x0))&&(decide (0<x1)))
def jW (x1:List Int)(x2:Int)(K0:Int->Prop)(s:Int×Int)(nx:(Int×Int)->Prop):Prop :=
 if (decide (s.2<x2))=true then ck (aF s.2 x1.length) (nx (i64.wrap (s.1*(x1.getD ((s.2).toNat) 0)),i64.wrap (s.2+1)))else K0 s.1
structure iE (x1:List Int)(x2:Int)(K0:Int->Prop)(s:Int×Int):Prop where
 it:Go.Mach.Loop (jW x1 x2 K0) s
structure tJ (a0:l6)(a1:List Int)(a2:List (List Int))(Q:((List Int)×Bool)->Prop):Prop where
 it:if (a0.1==1)=true then Q ([a0.2.1],(a1.length:Int)==1)else if (a0.1==2)=true then if (a0.1==2)=true then if ((a1.length:Int) != 3)=true then Q (([]:List Int),false)else ck (aF 1 a1.length) (ck (aF 2 a1.length) (dT (a1.getD 1 0) (a1.getD 2 0) a0.2.2.1 a0.2.2.2.1 a0.2.2.2.2.1 (fun r1=>ck (aF 0 a1.length) (if (a0.1==2)=true then dL r1.1 r1.2 (fun y2=>Q ([a0.2.1,r1.1,r1.2],y2))else dL r1.1 r1.2 (fun y3=>Q ([(a1.getD 0 0),r1.1,r1.2],y3))))))else if (a0.1==6)=true then iE a1 (a1.length:Int) (fun y4=>Q ([y4],true)) (1,0)else if (a0.1==7)=true then ck (a1.length*8<=140737488355328) (ck (aF a0.2.2.2.2.2.1 a2.length) (bB a1 (a2.getD ((a0.2.2.2.2.2.1).toNat) []) (fun r5=>Q (a1,r5))))else ck (a1.length*8<=140737488355328) (Q (a1,true))else if (a0.1==3)=true then if (a0.1==3)=true then if ((a1.length:Int) != 3)=true then Q (([]:List Int),false)else ck (aF 1 a1.length) (ck (aF 2 a1.length) (dT (a1.getD 1 0) (a1.getD 2 0) a0.2.2.1 a0.2.2.2.1 a0.2.2.2.2.1 (fun r6=>ck (aF 0 a1.length) (if (a0.1==2)=true then dL r6.1 r6.2 (fun y7=>Q ([a0.2.1,r6.1,r6.2],y7))else dL r6.1 r6.2 (fun y8=>Q ([(a1.getD 0 0),r6.1,r6.2],y8))))))else if (a0.1==6)=true then iE a1 (a1.length:Int) (fun y9=>Q ([y9],true)) (1,0)else if (a0.1==7)=true then ck (a1.length*8<=140737488355328) (ck (aF a0.2.2.2.2.2.1 a2.length) (bB a1 (a2.getD ((a0.2.2.2.2.2.1).toNat) []) (fun r10=>Q (a1,r10))))else ck (a1.length*8<=140737488355328) (Q (a1,true))else if (a0.1==4)=true then if ((a1.length:Int) != 3)=true then Q (([]:List Int),false)else ck (aF 1 a1.length) (ck (aF 2 a1.length) (dT (a1.getD 1 0) (a1.getD 2 0) a0.2.2.1 a0.2.2.2.1 a0.2.2.2.2.1 (fun r11=>ck (aF 0 a1.length) (if (a0.1==2)=true then dL r11.1 r11.2 (fun y12=>Q ([a0.2.1,r11.1,r11.2],y12))else dL r11.1 r11.2 (fun y13=>Q ([(a1.getD 0 0),r11.1,r11.2],y13))))))else if (a0.1==6)=true then iE a1 (a1.length:Int) (fun y14=>Q ([y14],true)) (1,0)else if (a0.1==7)=true then ck (a1.length*8<=140737488355328) (ck (aF a0.2.2.2.2.2.1 a2.length) (bB a1 (a2.getD ((a0.2.2.2.2.2.1).toNat) []) (fun r15=>Q (a1,r15))))else ck (a1.length*8<=140737488355328) (Q (a1,true))
def IB:Ent:=⟨[8,9,10],[sI,sI,sI],[],fun⟨⟨a,b,c,_⟩,_⟩ k=>dL a b (fun y16=>k .ret ⟨[(6,.own 0),(7,vB y16)],[.lst true aD [c,a,b] false]⟩)⟩
def IM:Ent:=⟨[11,67,68,69],[sI,sZ aD,sI,sI],[],fun⟨⟨a,b,c,d,_⟩,_⟩ k=>iE b c (fun y17=>k (.exit 1) ⟨[(11,vI y17)],[]⟩) (a,d)⟩
def KI:=GM.put tt 78 Tryz.func78 [6,7] [] [(6895,IB),(27626,IM)] [.agg [lI,lI,lI,lI,lI,lI,lB],sZ aD,sZ (.slc aD)] [] [(false,(.slc aD)),(false,.bool)] (fun x=>tJ (x.1.1,(x.1.2.1,(x.1.2.2.1,(x.1.2.2.2.1,(x.1.2.2.2.2.1,(x.1.2.2.2.2.2.1,x.1.2.2.2.2.2.2.1)))))) x.2.1 x.2.2.1) ⟨fun _ _ hs ⟨⟨_,_,_,_⟩,_⟩ _ h=>aN hs h.it,fun _ _ hs ⟨⟨a,b,c,d,_⟩,_⟩ _ h=>aH hs (fun y=>⟨⟨y.1,b,c,y.2,()⟩,()⟩) (a,d) h.it,trivial⟩ fun _ _ h=>⟨_,h.it,by kernel_rfl⟩
def i9 (x0:List l6)(x1:Int)(K0:(List (List Int))->Prop)(K1:(Int×Int)->Prop)(s:Int×List (List Int))(nx:(Int×List (List Int))->Prop):Prop :=
 if (decide (s.1<x1))=true then ck (aF s.1 x0.length) (ck (aF s.1 s.2.length) (tJ (x0.getD ((s.1).toNat) (0,(0,(0,(0,(0,(0,false))))))) (s.2.getD ((s.1).toNat) []) s.2 (fun r2=>if (!r2.2)=true then K1 (i64.wrap (s.1+1),2)else bK r2.1 (fun r3=>if (!r3)=true then K1 (i64.wrap (s.1+1),1)else ck ((s.2.length+[r2.1].length)*24<=140737488355328) (nx (i64.wrap (s.1+1),s.2++[r2.1]))))))else K0 s.2
structure wI (x0:List l6)(x1:Int)(K0:(List (List Int))->Prop)(K1:(Int×Int)->Prop)(s:Int×List (List Int)):Prop where
 it:Go.Mach.Loop (i9 x0 x1 K0 K1) s
structure eV (a0:QV)(Q:((List (List Int))×Int×Int)->Prop):Prop where
 it:qB a0 (fun r1=>if (!r1)=true then Q (([]:List (List Int)),0,1)else wI a0.2 (a0.2.length:Int) (fun y4=>Q (y4,0,0)) (fun y5=>Q (([]:List (List Int)),y5.1,y5.2)) (0,[[a0.1.1,a0.1.2.1,a0.1.2.2]]))
def G6:Ent:=⟨[5,25,26,27],[sC (.own 0),sZ cM,sI,sI],[.lst true (.slc aD) false],fun⟨⟨_,a,b,c,_⟩,⟨d,_⟩⟩ k=>wI a b (fun y6=>k (.exit 0) ⟨[(5,.own 0)],[.lst true (.slc aD) y6 false]⟩) (fun y7=>k .ret ⟨[(2,aK),(3,vI y7.1),(4,vI y7.2)],[]⟩) (c,d)⟩
def IX:=KI.put tt 39 Tryz.func39 [2,3,4] [] [(122,G6)] [.agg [lI,lI,lI,lZ cM]] [] [(false,(.slc (.slc aD))),(false,aD),(false,aD)] (fun x=>eV ((x.1.1,(x.1.2.1,x.1.2.2.1)),x.1.2.2.2.1)) ⟨fun _ _ hs ⟨⟨_,a,b,c,_⟩,⟨d,_⟩⟩ _ h=>aH hs (fun y=>⟨⟨(),a,b,y.1,()⟩,⟨y.2,()⟩⟩) (c,d) h.it,trivial⟩ fun _ _ h=>⟨_,h.it,by kernel_rfl⟩
structure pT (a0:l6)(a1:List Int)(Q:((List Int)×Int)->Prop):Prop where
 it:if (a0.1==1)=true then ck (aF 0 a1.length) (Q ([a0.2.1,a1.getD 0 0],a0.2.1))else if (a0.1==2)=true then ck (aF 0 a1.length) (Q ([a0.2.1,a1.getD 0 0,a0.2.2.1,a0.2.2.1],a0.2.1))else Q (([]:List Int),0)
def NF:=IX.put tt 46 Tryz.func46 [4,5] [] [] [.agg [lI,lI,lI,lI,lI,lI,lB],sZ aD] [] [(false,(.slc aD)),(false,aD)] (fun x=>pT (x.1.1,(x.1.2.1,(x.1.2.2.1,(x.1.2.2.2.1,(x.1.2.2.2.2.1,(x.1.2.2.2.2.2.1,x.1.2.2.2.2.2.2.1)))))) x.2.1) trivial fun _ _ h=>⟨_,h.it,by kernel_rfl⟩
structure pQ (a0:QV)(a1:Int)(Q:((List Int)×Int)->Prop):Prop where
 it:eV a0 (fun r1=>if (((r1.2.2 != 0)||(decide (a1<1)))||(decide ((a0.2.length:Int)<a1)))=true then Q (([]:List Int),0)else ck (aF (i64.wrap (a1-1)) a0.2.length) (ck (aF (i64.wrap (a1-1)) r1.1.length) (pT (a0.2.getD ((i64.wrap (a1-1)).toNat) (0,(0,(0,(0,(0,(0,false))))))) (r1.1.getD ((i64.wrap (a1-1)).toNat) []) (fun r2=>bK r2.1 (fun r3=>if (!r3)=true then Q (([]:List Int),0)else Q (r2.1,r2.2))))))
def NN:=NF.put tt 19 Tryz.func19 [4,5] [] [] [.agg [lI,lI,lI,lZ cM],sI] [] [(false,(.slc aD)),(false,aD)] (fun x=>pQ ((x.1.1,(x.1.2.1,x.1.2.2.1)),x.1.2.2.2.1) x.2.1) trivial fun _ _ h=>⟨_,h.it,by kernel_rfl⟩
structure gH (a0:Int)(Q:Int->Prop):Prop where
 it:ck ((0:Int)<=30) (ck ((0:Int)<=27) (ck ((0:Int)<=31) (Q (u64.wrap ((BitVec.ofInt (u64).bits (u64.wrap ((u64.wrap ((BitVec.ofInt (u64).bits (u64.wrap ((u64.wrap ((BitVec.ofInt (u64).bits (u64.wrap (a0+11400714819323198485)) ^^^ BitVec.ofInt (u64).bits ((u64.wrap (a0+11400714819323198485)).fdiv (2 ^ (min ((30:Int)).toNat (u64).bits)))).toNat:Nat))*13787848793156543929)) ^^^ BitVec.ofInt (u64).bits ((u64.wrap ((u64.wrap ((BitVec.ofInt (u64).bits (u64.wrap (a0+11400714819323198485)) ^^^ BitVec.ofInt (u64).bits ((u64.wrap (a0+11400714819323198485)).fdiv (2 ^ (min ((30:Int)).toNat (u64).bits)))).toNat:Nat))*13787848793156543929)).fdiv (2 ^ (min ((27:Int)).toNat (u64).bits)))).toNat:Nat))*10723151780598845931)) ^^^ BitVec.ofInt (u64).bits ((u64.wrap ((u64.wrap ((BitVec.ofInt (u64).bits (u64.wrap ((u64.wrap ((BitVec.ofInt (u64).bits (u64.wrap (a0+11400714819323198485)) ^^^ BitVec.ofInt (u64).bits ((u64.wrap (a0+11400714819323198485)).fdiv (2 ^ (min ((30:Int)).toNat (u64).bits)))).toNat:Nat))*13787848793156543929)) ^^^ BitVec.ofInt (u64).bits ((u64.wrap ((u64.wrap ((BitVec.ofInt (u64).bits (u64.wrap (a0+11400714819323198485)) ^^^ BitVec.ofInt (u64).bits ((u64.wrap (a0+11400714819323198485)).fdiv (2 ^ (min ((30:Int)).toNat (u64).bits)))).toNat:Nat))*13787848793156543929)).fdiv (2 ^ (min ((27:Int)).toNat (u64).bits)))).toNat:Nat))*10723151780598845931)).fdiv (2 ^ (min ((31:Int)).toNat (u64).bits)))).toNat:Nat)))))
def Q0:=NN.put tt 125 Tryz.func125 [2] [] [] [.lf (.int .u64)] [] [(false,(.int .u64))] (fun x=>gH x.1) trivial fun _ _ h=>⟨_,h.it,by kernel_rfl⟩
structure qF (a0 a1 a2:Int)(Q:Int->Prop):Prop where
 it:gH a0 (fun r1=>gH (u64.wrap ((BitVec.ofInt (u64).bits r1 ^^^ BitVec.ofInt (u64).bits a1).toNat:Nat)) (fun r2=>gH (u64.wrap ((BitVec.ofInt (u64).bits r2 ^^^ BitVec.ofInt (u64).bits a2).toNat:Nat)) (fun r3=>Q r3)))
def RZ:=Q0.put tt 76 Tryz.func76 [6] [] [] [.lf (.int .u64),.lf (.int .u64),.lf (.int .u64)] [] [(false,(.int .u64))] (fun x=>qF x.1 x.2.1 x.2.2.1) trivial fun _ _ h=>⟨_,h.it,by kernel_rfl⟩
def kH (x0 x1:Int)(K0:Unit->Prop)(K1:Int->Prop)(s:Int×Int)(nx:(Int×Int)->Prop):Prop :=
 if (decide (s.2<100))=true then if (decide (x1<=s.1))=true then ck ((u64.wrap x0)≠(0:Int)) (K1 (i64.wrap ((s.1).tmod (u64.wrap x0))))else gH s.1 (fun r2=>nx (r2,i64.wrap (s.2+1)))else K0 ()
structure yF (x0 x1:Int)(K0:Unit->Prop)(K1:Int->Prop)(s:Int×Int):Prop where
 it:Go.Mach.Loop (kH x0 x1 K0 K1) s
structure uZ (a0 a1 a2 a3:Int)(Q:Int->Prop):Prop where
 it:if ((decide (a3<1))||(decide (2147483648<a3)))=true then Q 0 else ck ((u64.wrap a3)≠(0:Int)) (ck ((u64.wrap a3)≠(0:Int)) (qF a0 a1 a2 (fun r1=>yF a3 ((u64.wrap ((((18446744073709551615:Int)).tmod (u64.wrap a3))+1)).tmod (u64.wrap a3)) (fun _=>Q 0) (fun y4=>Q y4) (r1,0))))
def JP:Ent:=⟨[3,9,10,28],[sI,.lf (.int .u64),.lf (.int .u64),sI],[],fun⟨⟨a,b,c,d,_⟩,_⟩ k=>yF a b (fun _=>k (.exit 0) ⟨[],[]⟩) (fun y6=>k .ret ⟨[(8,vI y6)],[]⟩) (c,d)⟩
def M9:=RZ.put tt 79 Tryz.func79 [8] [] [(250,JP)] [.lf (.int .u64),.lf (.int .u64),.lf (.int .u64),sI] [] [(false,aD)] (fun x=>uZ x.1 x.2.1 x.2.2.1 x.2.2.2.1) ⟨fun _ _ hs ⟨⟨a,b,c,d,_⟩,_⟩ _ h=>aH hs (fun y=>⟨⟨a,b,y.1,y.2,()⟩,()⟩) (c,d) h.it,trivial⟩ fun _ _ h=>⟨_,h.it,by kernel_rfl⟩
structure nD (x3:Int)(K0:Int->Prop):Prop where
 it:K0 (i64.wrap (x3+1))
def kF (x0 x1 x5:Int)(K0:(List Int)->Prop)(s:Int×List Int)(nx:(Int×List Int)->Prop):Prop :=
 if (decide (s.1<x5))=true then uZ x0 (u64.wrap (i64.wrap (x1+1))) (u64.wrap s.1) 63 (fun r13=>ck ((s.2.length+[i8.wrap (i64.wrap (r13-31))].length)*1<=140737488355328) (nx (i64.wrap (s.1+1),s.2++[i8.wrap (i64.wrap (r13-31))])))else K0 s.2
structure zD (x0 x1 x5:Int)(K0:(List Int)->Prop)(s:Int×List Int):Prop where
 it:Go.Mach.Loop (kF x0 x1 x5 K0) s
structure zI (x0 x1:Int)(x6:List gJ)(x7 x8:Int)(x9 x10 x11 x12:List Int)(K0:(List gJ)->Prop):Prop where
 it:zD x0 x1 (x10.length:Int) (fun y13=>ck ((x6.length+[((x9,(x7,y13)),(x10,(x11,(x8,x12))))].length)*136<=140737488355328) (K0 (x6++[((x9,(x7,y13)),(x10,(x11,(x8,x12))))]))) (0,([]:List Int))
def kE (x0:Int)(x1:List l6)(x2:Int)(x4:List (List Int))(K0:(List gJ)->Prop)(K1:Unit->Prop)(s:Int×List gJ)(nx:(Int×List gJ)->Prop):Prop :=
 if (decide (s.1<x2))=true then ck (aF s.1 x1.length) (ck (aF s.1 x4.length) (pT (x1.getD ((s.1).toNat) (0,(0,(0,(0,(0,(0,false))))))) (x4.getD ((s.1).toNat) []) (fun r9=>if ((r9.1.length:Int)==0)=true then ck ((s.2.length+[((([]:List Int),(0,([]:List Int))),(([]:List Int),(([]:List Int),(0,([]:List Int)))))].length)*136<=140737488355328) (nD s.1 (fun y10=>nx (y10,(s.2++[((([]:List Int),(0,([]:List Int))),(([]:List Int),(([]:List Int),(0,([]:List Int)))))]))))else bK r9.1 (fun r11=>if (!r11)=true then K1 ()else ck ((0:Int)<=r9.2/\((1:Nat):Int)*r9.2<=70368744177664) (cZ r9.1 (fun r12=>ck ((0:Int)<=r12/\((4:Nat):Int)*r12<=70368744177664) (zI x0 s.1 s.2 (-7) (-7) r9.1 (List.replicate (r12).toNat (0:Int)) [r9.2] (List.replicate (r9.2).toNat (0:Int)) (fun y13=>nD s.1 (fun y14=>nx (y14,y13))))))))))else K0 s.2
structure yV (x0:Int)(x1:List l6)(x2:Int)(x4:List (List Int))(K0:(List gJ)->Prop)(K1:Unit->Prop)(s:Int×List gJ):Prop where
 it:Go.Mach.Loop (kE x0 x1 x2 x4 K0 K1) s
structure vE (a0:QV)(a1:Int)(Q:((List gJ)×Int)->Prop):Prop where
 it:eV a0 (fun r1=>if (r1.2.2 != 0)=true then Q (([]:List gJ),r1.2.2)else yV a1 a0.2 (a0.2.length:Int) r1.1 (fun y15=>Q (y15,0)) (fun _=>Q (([]:List gJ),1)) (0,([]:List gJ)))
def MC:Ent:=⟨[1,6,9,26,27,28],[.lf (.int .u64),sC (.own 0),aDV,sZ cM,sI,sI],[.lst true (.slc aD) false],fun⟨⟨a,_,_,b,c,d,_⟩,⟨e,_⟩⟩ k=>yV a b c e (fun y17=>k (.exit 0) ⟨[(9,.own 0)],[.lst true dJ y17 false]⟩) (fun _=>k .ret ⟨[(4,aK),(5,vI 1)],[]⟩) (d,([]:List gJ))⟩
def KY:Ent:=⟨[1,6,9,26,27,28],[.lf (.int .u64),sC (.own 0),sC (.own 1),sZ cM,sI,sI],[.lst true (.slc aD) false,.lst true dJ false],fun⟨⟨a,_,_,b,c,d,_⟩,⟨e,f,_⟩⟩ k=>nD d (fun y19=>k .normal ⟨[(1,vK .u64 a),(6,.own 0),(9,.own 1),(26,vZ cM b),(27,vI c),(28,vI y19)],[.lst true (.slc aD) e false,.lst true dJ f false]⟩)⟩
def JM:Ent:=⟨[1,6,9,10,14,26,27,28],[.lf (.int .u64),sC (.own 0),sC (.own 1),sI,sPt 2,sZ cM,sI,sI],[.lst true (.slc aD) false,.lst true dJ false,.box [.cst (.own 3),lI,eE,.cst (.own 4),.cst (.own 5),lI,.cst (.own 6)] false,oQa,oQc,oQa,.lst true aL false],fun⟨⟨a,_,_,b,_,c,d,e,_⟩,⟨f,g,⟨_,i,_,_,_,j,_⟩,l,m,n,o,_⟩⟩ k=>zI a b g i j l m n o (fun y20=>k .normal ⟨[(1,vK .u64 a),(6,.own 0),(9,.own 1),(26,vZ cM c),(27,vI d),(28,vI e)],[.lst true (.slc aD) f false,.lst true dJ y20 false]⟩)⟩
def L3:Ent:=⟨[1,6,9,10,14,26,27,28,65,66],[.lf (.int .u64),sC (.own 0),sC (.own 1),sI,sPt 2,sZ cM,sI,sI,sI,sI],[.lst true (.slc aD) false,.lst true dJ false,.box [.cst (.own 3),lI,eE,.cst (.own 4),.cst (.own 5),lI,.cst (.own 6)] false,oQa,oQc,oQa,.lst true aL false],fun⟨⟨a,_,_,b,_,c,d,e,f,g,_⟩,⟨i,j,⟨_,l,_,_,_,m,_⟩,n,o,p,q,_⟩⟩ k=>zD a b f (fun y21=>k (.exit 2) ⟨[(1,vK .u64 a),(6,.own 0),(9,.own 1),(14,.ptr 2 0),(26,vZ cM c),(27,vI d),(28,vI e)],[.lst true (.slc aD) i false,.lst true dJ j false,.box [.own 3,vI l,.own 4,.own 5,.own 6,vI m,.own 7] false,.lst true aD n false,.lst true aL y21 false,.lst true aY o false,.lst true aD p false,.lst true aL q false]⟩) (g,([]:List Int))⟩
def M6:=M9.put tt 41 Tryz.func41 [4,5] [(250,[⟨9,none,false,dJ⟩]),(2051322,[⟨14,some 2,false,aL⟩])] [(250,MC),(4007,KY),(256415,JM),(2051322,L3)] [.agg [lI,lI,lI,lZ cM],.lf (.int .u64)] [] [(false,(.slc dJ)),(false,aD)] (fun x=>vE ((x.1.1,(x.1.2.1,x.1.2.2.1)),x.1.2.2.2.1) x.2.1) ⟨fun _ _ hs ⟨⟨a,_,_,b,c,d,_⟩,⟨e,_⟩⟩ _ h=>fD hs (fun y=>⟨[(1,vK .u64 a),(6,.own 0),(9,.own 1),(26,vZ cM b),(27,vI c),(28,vI y.1)],[.lst true (.slc aD) e false,.lst true dJ y.2 false]⟩) (d,([]:List gJ)) h.it,fun _ _ hs ⟨⟨_,_,_,_,_,_,_⟩,⟨_,_,_⟩⟩ _ h=>aN hs h.it,fun _ _ hs ⟨⟨_,_,_,_,_,_,_,_,_⟩,⟨_,_,⟨_,_,_,_,_,_,_⟩,_,_,_,_,_⟩⟩ _ h=>aN hs h.it,fun _ _ hs ⟨⟨a,_,_,b,_,c,d,e,f,g,_⟩,⟨i,j,⟨_,l,_,_,_,m,_⟩,n,o,p,q,_⟩⟩ _ h=>fD hs (fun y=>⟨[(1,vK .u64 a),(6,.own 0),(9,.own 1),(10,vI b),(14,.ptr 2 0),(26,vZ cM c),(27,vI d),(28,vI e),(65,vI f),(66,vI y.1)],[.lst true (.slc aD) i false,.lst true dJ j false,.box [.own 3,vI l,.own 4,.own 5,.own 6,vI m,.own 7] false,.lst true aD n false,.lst true aL y.2 false,.lst true aY o false,.lst true aD p false,.lst true aL q false]⟩) (g,([]:List Int)) h.it,trivial⟩ fun _ _ h=>⟨_,h.it,by kernel_rfl⟩
structure mU (x0:Int)(x1:List Int)(x2:Int)(K0:Int->Prop):Prop where
 it:cZ x1 (fun r8=>K0 (i64.wrap (x0+(i64.wrap (r8+x2)))))
def kS (x1 x3 x4 x5:Int)(x6:List l6)(x13:List (List Int))(K0:Int->Prop)(K1:Unit->Prop)(s:Int×Int)(nx:(Int×Int)->Prop):Prop :=
 if (decide (s.2<x1))=true then ck (aF s.2 x13.length) (if (decide (0<s.2))=true then pQ ((x3,(x4,x5)),x6) s.2 (fun r2=>cZ r2.1 (fun r3=>jn (fun v4=>if v4=true then K1 ()else mU s.1 (x13.getD ((s.2).toNat) []) r3 (fun y8=>nx (y8,i64.wrap (s.2+1)))) (fun J5=>if ((r2.1.length:Int)==0)=true then ck (aF (i64.wrap (s.2-1)) x6.length) (jn (fun v6=>J5 v6) (fun J7=>if (((x6.getD ((i64.wrap (s.2-1)).toNat) (0,(0,(0,(0,(0,(0,false))))))).1)==1)=true then J7 true else ck (aF (i64.wrap (s.2-1)) x6.length) (J7 (((x6.getD ((i64.wrap (s.2-1)).toNat) (0,(0,(0,(0,(0,(0,false))))))).1)==2))))else J5 false)))else mU s.1 (x13.getD ((s.2).toNat) []) 0 (fun y9=>nx (y9,i64.wrap (s.2+1))))else K0 s.1
structure yG (x1 x3 x4 x5:Int)(x6:List l6)(x13:List (List Int))(K0:Int->Prop)(K1:Unit->Prop)(s:Int×Int):Prop where
 it:Go.Mach.Loop (kS x1 x3 x4 x5 x6 x13 K0 K1) s
structure nC (x0:Int)(K0:Int->Prop):Prop where
 it:K0 (i64.wrap (x0+1))
def kD (x1 x4:Int)(K0:(Int×(List Int)×(List Int)×List gJ)->Prop)(s:Int×Int×(List Int)×(List Int)×List gJ)(nx:(Int×Int×(List Int)×(List Int)×List gJ)->Prop):Prop :=
 if (decide (s.2.1<x4))=true then jn (fun v12=>if v12=true then ck (aF x1 s.2.2.2.2.length) (ck (aF s.1 s.2.2.1.length) (ck (aF s.2.1 ((((s.2.2.2.2.getD ((x1).toNat) (([],(0,[])),([],([],(0,[]))))).1).2).2).length) (∀ (m14:List Int),Go.Mach.SE .i8 (s.2.2.1.getD ((s.1).toNat) 0) (.slc aL) s.2.2.1 m14->(∀ (m15:List Int),Go.Mach.SE .i8 (s.2.2.1.getD ((s.1).toNat) 0) (.slc aL) s.2.2.2.1 m15->(∀ (m16:List gJ),Go.Mach.SE .i8 (s.2.2.1.getD ((s.1).toNat) 0) (.slc dJ) s.2.2.2.2 m16->(nC s.1 (fun y17=>nx (y17,i64.wrap (s.2.1+1),m14,m15,m16))))))))else nC s.1 (fun y18=>nx (y18,i64.wrap (s.2.1+1),s.2.2.1,s.2.2.2.1,s.2.2.2.2))) (fun J13=>if (decide (s.1<(s.2.2.1.length:Int)))=true then ck (aF s.1 s.2.2.1.length) (J13 ((s.2.2.1.getD ((s.1).toNat) 0) != (-128)))else J13 false)else K0 (s.1,s.2.2.1,s.2.2.2.1,s.2.2.2.2)
structure q7 (x1 x4:Int)(K0:(Int×(List Int)×(List Int)×List gJ)->Prop)(s:Int×Int×(List Int)×(List Int)×List gJ):Prop where
 it:Go.Mach.Loop (kD x1 x4 K0) s
structure nA (x0:Int)(K0:Int->Prop):Prop where
 it:K0 (i64.wrap (x0+1))
def kI (x1 x4:Int)(K0:(Int×(List Int)×(List Int)×List gJ)->Prop)(s:Int×Int×(List Int)×(List Int)×List gJ)(nx:(Int×Int×(List Int)×(List Int)×List gJ)->Prop):Prop :=
 if (decide (s.2.1<x4))=true then jn (fun v20=>if v20=true then ck (aF x1 s.2.2.2.2.length) (ck (aF s.1 s.2.2.1.length) (ck (aF s.2.1 (((((s.2.2.2.2.getD ((x1).toNat) (([],(0,[])),([],([],(0,[]))))).2).2).2).2).length) (∀ (m22:List Int),Go.Mach.SE .i8 (s.2.2.1.getD ((s.1).toNat) 0) (.slc aL) s.2.2.1 m22->(∀ (m23:List Int),Go.Mach.SE .i8 (s.2.2.1.getD ((s.1).toNat) 0) (.slc aL) s.2.2.2.1 m23->(∀ (m24:List gJ),Go.Mach.SE .i8 (s.2.2.1.getD ((s.1).toNat) 0) (.slc dJ) s.2.2.2.2 m24->(nA s.1 (fun y25=>nx (y25,i64.wrap (s.2.1+1),m22,m23,m24))))))))else nA s.1 (fun y26=>nx (y26,i64.wrap (s.2.1+1),s.2.2.1,s.2.2.2.1,s.2.2.2.2))) (fun J21=>if (decide (s.1<(s.2.2.1.length:Int)))=true then ck (aF s.1 s.2.2.1.length) (J21 ((s.2.2.1.getD ((s.1).toNat) 0) != (-128)))else J21 false)else K0 (s.1,s.2.2.1,s.2.2.2.1,s.2.2.2.2)
structure qX (x1 x4:Int)(K0:(Int×(List Int)×(List Int)×List gJ)->Prop)(s:Int×Int×(List Int)×(List Int)×List gJ):Prop where
 it:Go.Mach.Loop (kI x1 x4 K0) s
def kT (x1:Int)(K0:((List Int)×(List Int)×List gJ)->Prop)(s:Int×Int×(List Int)×(List Int)×List gJ)(nx:(Int×Int×(List Int)×(List Int)×List gJ)->Prop):Prop :=
 if (decide (s.2.1<x1))=true then ck (aF s.2.1 s.2.2.2.2.length) (q7 s.2.1 (((((s.2.2.2.2.getD ((s.2.1).toNat) (([],(0,[])),([],([],(0,[]))))).1).2).2).length:Int) (fun y12=>ck (aF s.2.1 y12.2.2.2.length) (qX s.2.1 ((((((y12.2.2.2.getD ((s.2.1).toNat) (([],(0,[])),([],([],(0,[]))))).2).2).2).2).length:Int) (fun y13=>nx (y13.1,i64.wrap (s.2.1+1),y13.2.1,y13.2.2.1,y13.2.2.2)) (y12.1,0,y12.2.1,y12.2.2.1,y12.2.2.2))) (s.1,0,s.2.2.1,s.2.2.2.1,s.2.2.2.2))else K0 (s.2.2.1,s.2.2.2.1,s.2.2.2.2)
structure q9 (x1:Int)(K0:((List Int)×(List Int)×List gJ)->Prop)(s:Int×Int×(List Int)×(List Int)×List gJ):Prop where
 it:Go.Mach.Loop (kT x1 K0) s
structure rD (x0:Int)(x16:List Int)(K0:Unit->Prop):Prop where
 it:ck ((x16.length+[x0].length)*1<=140737488355328) (K0 ())
def kQ (x0:Int)(x9:List Int)(K0:(List Int)->Prop)(s:Int×List Int)(nx:(Int×List Int)->Prop):Prop :=
 if (decide (s.1<x0))=true then ck (90≠(0:Int)) (jn (fun v20=>if v20=true then ck (aF s.1 x9.length) (rD (x9.getD ((s.1).toNat) 0) s.2 (fun _=>nx (i64.wrap (s.1+1),s.2++[(x9.getD ((s.1).toNat) 0)])))else rD (i8.wrap ((i64.wrap (s.1*7)).tmod 90)) s.2 (fun _=>nx (i64.wrap (s.1+1),s.2++[(i8.wrap ((i64.wrap (s.1*7)).tmod 90))]))) (fun J21=>if (decide (s.1<(x9.length:Int)))=true then ck (aF s.1 x9.length) (J21 ((x9.getD ((s.1).toNat) 0) != (-128)))else J21 false))else K0 s.2
structure rM (x0:Int)(x9:List Int)(K0:(List Int)->Prop)(s:Int×List Int):Prop where
 it:Go.Mach.Loop (kQ x0 x9 K0) s
structure vM (a0:aN4)(Q:((List gJ)×aZ×Int)->Prop):Prop where
 it:eV a0.1 (fun r1=>if (r1.2.2 != 0)=true then Q (([]:List gJ),(([]:List Int),(0,([]:List Int))),r1.2.2)else yG (r1.1.length:Int) a0.1.1.1 a0.1.1.2.1 a0.1.1.2.2 a0.1.2 r1.1 (fun y10=>if (decide (700<y10))=true then Q (([]:List gJ),(([]:List Int),(0,([]:List Int))),10)else vE a0.1 a0.2.1 (fun r11=>if (r11.2 != 0)=true then Q (([]:List gJ),(([]:List Int),(0,([]:List Int))),r11.2)else q9 (r11.1.length:Int) (fun y14=>ck (3≠(0:Int)) (ck (20≠(0:Int)) (cZ [i64.wrap (1+(i64.wrap ((u64.wrap a0.2.2.2.1).tmod 3))),a0.1.1.1,a0.1.1.2.1,a0.1.1.2.2] (fun r15=>rM r15 y14.2.1 (fun y24=>Q (y14.2.2,([i64.wrap (1+(i64.wrap ((u64.wrap a0.2.2.2.1).tmod 3))),a0.1.1.1,a0.1.1.2.1,a0.1.1.2.2],(((a0.2.2.2.2.2).tmod 20),y24)),0)) (0,([]:List Int)))))) (0,0,a0.2.2.1,a0.2.2.2.2.1,r11.1))) (fun _=>Q (([]:List gJ),(([]:List Int),(0,([]:List Int))),1)) (0,0))
def LI:Ent:=⟨[1,3,8,33,34,35],[sPt 0,sPt 1,sI,sC (.own 2),sI,sI],[.box [lI,lI,lI,lZ cM,.int .u64,lZ aL,lI,lZ aL,lI] false,dG,.lst true (.slc aD) false],fun⟨⟨_,_,a,_,b,c,_⟩,⟨⟨d,e,f,g,i,j,l,m,n,_⟩,⟨_,o,_⟩,p,_⟩⟩ k=>yG b d e f g p (fun y26=>k (.exit 0) ⟨[(1,.ptr 0 0),(3,.ptr 1 0),(8,vI y26)],[.box [vI d,vI e,vI f,vZ cM g,vK .u64 i,vZ aL j,vI l,vZ aL m,vI n] false,.box [aK,vI o,aK] false]⟩) (fun _=>k .ret ⟨[(2,aK),(3,.ptr 0 0),(4,vI 1)],[.box [aK,vI 0,aK] false]⟩) (a,c)⟩
def L5:Ent:=⟨[1,3,14,15,100,101],[sPt 0,sPt 1,sC (.own 2),sI,sI,sI],[.box [lI,lI,lI,lZ cM,.int .u64,lZ aL,lI,lZ aL,lI] false,dG,.lst true dJ false],fun⟨⟨_,_,_,a,b,c,_⟩,⟨⟨d,e,f,g,i,j,l,m,n,_⟩,⟨_,o,_⟩,p,_⟩⟩ k=>q9 b (fun y28=>k (.exit 2) ⟨[(1,.ptr 0 0),(3,.ptr 1 0),(14,.own 2)],[.box [vI d,vI e,vI f,vZ cM g,vK .u64 i,vZ aL y28.1,vI l,vZ aL y28.2.1,vI n] false,.box [aK,vI o,aK] false,.lst true dJ y28.2.2 false]⟩) (a,c,j,m,p)⟩
def MB:Ent:=⟨[1,3,14,19,208,209],[sPt 0,sPt 1,sC (.own 2),sPt 3,sI,sI],[.box [lI,lI,lI,lZ cM,.int .u64,lZ aL,lI,lZ aL,lI] false,dG,.lst true dJ false,.box [.cst (.own 4),lI,eE] false,oQa],fun⟨⟨_,_,_,_,a,b,_⟩,⟨⟨_,_,_,_,_,_,_,l,_,_⟩,⟨_,n,_⟩,o,⟨_,p,_⟩,q,_⟩⟩ k=>rM a l (fun y29=>k (.exit 8) ⟨[(3,.ptr 0 0),(14,.own 1),(19,.ptr 2 0)],[.box [aK,vI n,aK] false,.lst true dJ o false,.box [.own 3,vI p,.own 4] false,.lst true aD q false,.lst true aL y29 false]⟩) (b,([]:List Int))⟩
def KD:Ent:=⟨[1,3,8,10,11,33,34,35],[sPt 0,sPt 1,sI,.lf (.fz true aD),sI,sC (.own 2),sI,sI],[.box [lI,lI,lI,lZ cM,.int .u64,lZ aL,lI,lZ aL,lI] false,dG,.lst true (.slc aD) false],fun⟨⟨_,_,a,b,c,_,d,e,_⟩,⟨⟨f,g,i,j,l,m,n,o,p,_⟩,⟨_,q,_⟩,t,_⟩⟩ k=>mU a b c (fun y30=>k .normal ⟨[(1,.ptr 0 0),(3,.ptr 1 0),(8,vI y30),(33,.own 2),(34,vI d),(35,vI e)],[.box [vI f,vI g,vI i,vZ cM j,vK .u64 l,vZ aL m,vI n,vZ aL o,vI p] false,.box [aK,vI q,aK] false,.lst true (.slc aD) t false]⟩)⟩
def LD:Ent:=⟨[1,3,14,15,16,100,101,110,111],[sPt 0,sPt 1,sC (.own 2),sI,sI,sI,sI,sI,sI],[.box [lI,lI,lI,lZ cM,.int .u64,lZ aL,lI,lZ aL,lI] false,dG,.lst true dJ false],fun⟨⟨_,_,_,a,b,c,d,e,f,_⟩,⟨⟨g,i,j,l,m,n,o,p,q,_⟩,⟨_,t,_⟩,u,_⟩⟩ k=>q7 b e (fun y31=>k (.exit 4) ⟨[(1,.ptr 0 0),(3,.ptr 1 0),(14,.own 2),(15,vI y31.1),(16,vI b),(100,vI c),(101,vI d)],[.box [vI g,vI i,vI j,vZ cM l,vK .u64 m,vZ aL y31.2.1,vI o,vZ aL y31.2.2.1,vI q] false,.box [aK,vI t,aK] false,.lst true dJ y31.2.2.2 false]⟩) (a,f,n,p,u)⟩
def KG:Ent:=⟨[1,3,14,15,16,100,101,149,150],[sPt 0,sPt 1,sC (.own 2),sI,sI,sI,sI,sI,sI],[.box [lI,lI,lI,lZ cM,.int .u64,lZ aL,lI,lZ aL,lI] false,dG,.lst true dJ false],fun⟨⟨_,_,_,a,b,c,d,e,f,_⟩,⟨⟨g,i,j,l,m,n,o,p,q,_⟩,⟨_,t,_⟩,u,_⟩⟩ k=>qX b e (fun y32=>k (.exit 6) ⟨[(1,.ptr 0 0),(3,.ptr 1 0),(14,.own 2),(15,vI y32.1),(100,vI c),(101,vI d)],[.box [vI g,vI i,vI j,vZ cM l,vK .u64 m,vZ aL y32.2.1,vI o,vZ aL y32.2.2.1,vI q] false,.box [aK,vI t,aK] false,.lst true dJ y32.2.2.2 false]⟩) (a,f,n,p,u)⟩
def MF:Ent:=⟨[1,3,14,19,21,208,209],[sPt 0,sPt 1,sC (.own 2),sPt 3,.lf (.int .i8),sI,sI],[.box [lI,lI,lI,lZ cM,.int .u64,lZ aL,lI,lZ aL,lI] false,dG,.lst true dJ false,.box [.cst (.own 4),lI,.cst (.own 5)] false,oQa,.lst true aL false],fun⟨⟨_,_,_,_,a,b,c,_⟩,⟨⟨d,e,f,g,i,j,l,m,n,_⟩,⟨_,o,_⟩,p,⟨_,q,_⟩,t,u,_⟩⟩ k=>rD a u (fun _=>k .normal ⟨[(1,.ptr 0 0),(3,.ptr 1 0),(14,.own 2),(19,.ptr 3 0),(208,vI b),(209,vI c)],[.box [vI d,vI e,vI f,vZ cM g,vK .u64 i,vZ aL j,vI l,vZ aL m,vI n] false,.box [aK,vI o,aK] false,.lst true dJ p false,.box [.own 4,vI q,.own 5] false,.lst true aD t false,.lst true aL (u++[a]) false]⟩)⟩
def LG:Ent:=⟨[1,3,14,15,16,100,101,110,111],[sPt 0,sPt 1,sC (.own 2),sI,sI,sI,sI,sI,sI],[.box [lI,lI,lI,lZ cM,.int .u64,lZ aL,lI,lZ aL,lI] false,dG,.lst true dJ false],fun⟨⟨_,_,_,a,b,c,d,e,f,_⟩,⟨⟨g,i,j,l,m,n,o,p,q,_⟩,⟨_,t,_⟩,u,_⟩⟩ k=>nC a (fun y34=>k .normal ⟨[(1,.ptr 0 0),(3,.ptr 1 0),(14,.own 2),(15,vI y34),(16,vI b),(100,vI c),(101,vI d),(110,vI e),(111,vI f)],[.box [vI g,vI i,vI j,vZ cM l,vK .u64 m,vZ aL n,vI o,vZ aL p,vI q] false,.box [aK,vI t,aK] false,.lst true dJ u false]⟩)⟩
def LA:Ent:=⟨[1,3,14,15,16,100,101,149,150],[sPt 0,sPt 1,sC (.own 2),sI,sI,sI,sI,sI,sI],[.box [lI,lI,lI,lZ cM,.int .u64,lZ aL,lI,lZ aL,lI] false,dG,.lst true dJ false],fun⟨⟨_,_,_,a,b,c,d,e,f,_⟩,⟨⟨g,i,j,l,m,n,o,p,q,_⟩,⟨_,t,_⟩,u,_⟩⟩ k=>nA a (fun y35=>k .normal ⟨[(1,.ptr 0 0),(3,.ptr 1 0),(14,.own 2),(15,vI y35),(16,vI b),(100,vI c),(101,vI d),(149,vI e),(150,vI f)],[.box [vI g,vI i,vI j,vZ cM l,vK .u64 m,vZ aL n,vI o,vZ aL p,vI q] false,.box [aK,vI t,aK] false,.lst true dJ u false]⟩)⟩
def NQ:=M6.putX tt 14 Tryz.func14 [2,3,4] [(32762,[⟨19,some 2,false,aL⟩])] [(250,LI),(8186,L5),(32762,MB),(64103,KD),(4191434,LD),(4191438,KG),(8387175,MF),(536503603,LG),(536504115,LA)] [.agg [lI,lI,lI,lZ cM,.int .u64,lZ aL,lI,lZ aL,lI]] [] [(false,(.slc dJ)),(true,aX),(false,aD)] (fun x=>vM (((x.1.1,(x.1.2.1,x.1.2.2.1)),x.1.2.2.2.1),(x.1.2.2.2.2.1,(x.1.2.2.2.2.2.1,(x.1.2.2.2.2.2.2.1,(x.1.2.2.2.2.2.2.2.1,x.1.2.2.2.2.2.2.2.2.1)))))) [] none true 0 hI0 ⟨fun _ _ hs ⟨⟨_,_,a,_,b,c,_⟩,⟨⟨d,e,f,g,i,j,l,m,n,_⟩,⟨_,o,_⟩,p,_⟩⟩ _ h=>aH hs (fun y=>⟨⟨(),(),y.1,(),b,y.2,()⟩,⟨⟨d,e,f,g,i,j,l,m,n,()⟩,⟨(),o,(),()⟩,p,()⟩⟩) (a,c) h.it,fun _ _ hs ⟨⟨_,_,_,a,b,c,_⟩,⟨⟨d,e,f,g,i,j,l,m,n,_⟩,⟨_,o,_⟩,p,_⟩⟩ _ h=>aH hs (fun y=>⟨⟨(),(),(),y.1,b,y.2.1,()⟩,⟨⟨d,e,f,g,i,y.2.2.1,l,y.2.2.2.1,n,()⟩,⟨(),o,(),()⟩,y.2.2.2.2,()⟩⟩) (a,c,j,m,p) h.it,fun _ _ hs ⟨⟨_,_,_,_,a,b,_⟩,⟨⟨c,d,e,f,g,i,j,l,m,_⟩,⟨_,n,_⟩,o,⟨_,p,_⟩,q,_⟩⟩ _ h=>fD hs (fun y=>⟨[(1,.ptr 0 0),(3,.ptr 1 0),(14,.own 2),(19,.ptr 3 0),(208,vI a),(209,vI y.1)],[.box [vI c,vI d,vI e,vZ cM f,vK .u64 g,vZ aL i,vI j,vZ aL l,vI m] false,.box [aK,vI n,aK] false,.lst true dJ o false,.box [.own 4,vI p,.own 5] false,.lst true aD q false,.lst true aL y.2 false]⟩) (b,([]:List Int)) h.it,fun _ _ hs ⟨⟨_,_,_,_,_,_,_,_,_⟩,⟨⟨_,_,_,_,_,_,_,_,_,_⟩,⟨_,_,_⟩,_,_⟩⟩ _ h=>aN hs h.it,fun _ _ hs ⟨⟨_,_,_,a,b,c,d,e,f,_⟩,⟨⟨g,i,j,l,m,n,o,p,q,_⟩,⟨_,t,_⟩,u,_⟩⟩ _ h=>aH hs (fun y=>⟨⟨(),(),(),y.1,b,c,d,e,y.2.1,()⟩,⟨⟨g,i,j,l,m,y.2.2.1,o,y.2.2.2.1,q,()⟩,⟨(),t,(),()⟩,y.2.2.2.2,()⟩⟩) (a,f,n,p,u) h.it,fun _ _ hs ⟨⟨_,_,_,a,b,c,d,e,f,_⟩,⟨⟨g,i,j,l,m,n,o,p,q,_⟩,⟨_,t,_⟩,u,_⟩⟩ _ h=>aH hs (fun y=>⟨⟨(),(),(),y.1,b,c,d,e,y.2.1,()⟩,⟨⟨g,i,j,l,m,y.2.2.1,o,y.2.2.2.1,q,()⟩,⟨(),t,(),()⟩,y.2.2.2.2,()⟩⟩) (a,f,n,p,u) h.it,fun _ _ hs ⟨⟨_,_,_,_,_,_,_,_⟩,⟨⟨_,_,_,_,_,_,_,_,_,_⟩,⟨_,_,_⟩,_,⟨_,_,_⟩,_,_,_⟩⟩ _ h=>aN hs h.it,fun _ _ hs ⟨⟨_,_,_,_,_,_,_,_,_,_⟩,⟨⟨_,_,_,_,_,_,_,_,_,_⟩,⟨_,_,_⟩,_,_⟩⟩ _ h=>aN hs h.it,fun _ _ hs ⟨⟨_,_,_,_,_,_,_,_,_,_⟩,⟨⟨_,_,_,_,_,_,_,_,_,_⟩,⟨_,_,_⟩,_,_⟩⟩ _ h=>aN hs h.it,trivial⟩ fun _ _ h=>⟨_,h.it,by kernel_rfl⟩
def HS (x0:Int)(x4 x7:List Int)(K0 K1:Unit->Prop)(s:Int)(nx:Int->Prop):Prop :=
 if (decide (s<x0))=true then ck (aF s x4.length) (ck (aF s x7.length) (if ((x4.getD ((s).toNat) 0) != (x7.getD ((s).toNat) 0))=true then K1 ()else nx (i64.wrap (s+1))))else K0 ()
structure yK (x0:Int)(x4 x7:List Int)(K0 K1:Unit->Prop)(s:Int):Prop where
 it:Go.Mach.Loop (HS x0 x4 x7 K0 K1) s
structure QX (a0 a1:aZ)(Q:Bool->Prop):Prop where
 it:bB a0.1 a1.1 (fun r1=>if (((!r1)||(a0.2.1 != a1.2.1))||((a0.2.2.length:Int) != (a1.2.2.length:Int)))=true then Q false else yK (a0.2.2.length:Int) a0.2.2 a1.2.2 (fun _=>Q true) (fun _=>Q false) 0)
def JN:Ent:=⟨[2,3,30,31],[sPt 0,sPt 1,sI,sI],[bT,bT],fun⟨⟨_,_,a,b,_⟩,⟨⟨_,_,e,_⟩,⟨_,_,i,_⟩,_⟩⟩ k=>yK a e i (fun _=>k (.exit 0) ⟨[],[]⟩) (fun _=>k .ret ⟨[(4,vB false)],[]⟩) b⟩
def NE:=NQ.put tt 37 Tryz.func37 [4] [] [(58,JN)] [.agg cR,.agg cR] [] [(false,.bool)] (fun x=>QX (x.1.1,(x.1.2.1,x.1.2.2.1)) (x.2.1.1,(x.2.1.2.1,x.2.1.2.2.1))) ⟨fun _ _ hs ⟨⟨_,_,a,b,_⟩,⟨⟨c,d,e,_⟩,⟨f,g,i,_⟩,_⟩⟩ _ h=>aH hs (fun y=>⟨⟨(),(),a,y,()⟩,⟨⟨c,d,e,()⟩,⟨f,g,i,()⟩,()⟩⟩) b h.it,trivial⟩ fun _ _ h=>⟨_,h.it,by kernel_rfl⟩
def qZ (x0 x1 x2:Int)(x5 x8:List Int)(x9 x11:Int)(K0:Int->Prop)(s:Int×Int)(nx:(Int×Int)->Prop):Prop :=
 if (decide (s.2<x11))=true then ck (aF (i64.wrap ((i64.wrap (x0*x2))+s.2)) x5.length) (ck (aF (i64.wrap ((i64.wrap (s.2*x9))+x1)) x8.length) (nx (i64.wrap (s.1+(i64.wrap ((i64.wrap (x5.getD ((i64.wrap ((i64.wrap (x0*x2))+s.2)).toNat) 0))*(i64.wrap (x8.getD ((i64.wrap ((i64.wrap (s.2*x9))+x1)).toNat) 0))))),i64.wrap (s.2+1))))else K0 s.1
structure JD (x0 x1 x2:Int)(x5 x8:List Int)(x9 x11:Int)(K0:Int->Prop)(s:Int×Int):Prop where
 it:Go.Mach.Loop (qZ x0 x1 x2 x5 x8 x9 x11 K0) s
structure A0 (a0 a1 a2:Int)(a3:List Int)(a4:Int)(a5 a6:List Int)(a7:Int)(a8:List Int)(a9:Int)(Q:Int->Prop):Prop where
 it:JD a0 a1 a2 a5 a8 a9 a2 (fun y1=>Q y1) (0,0)
def WE:Ent:=⟨[0,1,2,3,4,5,9,11,12],[sI,sI,.bx [lI],.bx cR,.bx cR,.bx [lI],sI,sI,sI],[],fun⟨⟨a,b,⟨c,_⟩,⟨_,_,f,_⟩,⟨_,_,j,_⟩,⟨l,_⟩,m,n,o,_⟩,_⟩ k=>JD a b c f j l n (fun y2=>k (.exit 0) ⟨[(9,vI y2)],[]⟩) (m,o)⟩
def X7:=NE.put tt 179 Tryz.func179 [8] [] [(58,WE)] [sI,sI,.bx [lI],.bx cR,.bx cR,.bx [lI]] [] [(false,aD)] (fun x=>A0 x.1 x.2.1 x.2.2.1.1 x.2.2.2.1.1 x.2.2.2.1.2.1 x.2.2.2.1.2.2.1 x.2.2.2.2.1.1 x.2.2.2.2.1.2.1 x.2.2.2.2.1.2.2.1 x.2.2.2.2.2.1.1) ⟨fun _ _ hs ⟨⟨a,b,⟨c,_⟩,⟨d,e,f,_⟩,⟨g,i,j,_⟩,⟨l,_⟩,m,n,o,_⟩,_⟩ _ h=>aH hs (fun y=>⟨⟨a,b,⟨c,()⟩,⟨d,e,f,()⟩,⟨g,i,j,()⟩,⟨l,()⟩,y.1,n,y.2,()⟩,()⟩) (m,o) h.it,trivial⟩ fun _ _ h=>⟨_,h.it,by kernel_rfl⟩
def j9 (x1:Int)(x2:List Int)(x3:Int)(x4 x5:List Int)(x6:Int)(x7:List Int)(x8 x9 x12:Int)(K0:(List Int)->Prop)(s:Int×List Int)(nx:(Int×List Int)->Prop):Prop :=
 if (decide (s.1<x12))=true then A0 x9 s.1 x1 x2 x3 x4 x5 x6 x7 x8 (fun r6=>ck ((s.2.length+[i32.wrap r6].length)*4<=140737488355328) (nx (i64.wrap (s.1+1),s.2++[i32.wrap r6])))else K0 s.2
structure rZ (x1:Int)(x2:List Int)(x3:Int)(x4 x5:List Int)(x6:Int)(x7:List Int)(x8 x9 x12:Int)(K0:(List Int)->Prop)(s:Int×List Int):Prop where
 it:Go.Mach.Loop (j9 x1 x2 x3 x4 x5 x6 x7 x8 x9 x12 K0) s
def fP (x0 x1:Int)(x2:List Int)(x3:Int)(x4 x5:List Int)(x6:Int)(x7:List Int)(x8 x9:Int)(K0:(List Int)->Prop)(s:Int×List Int)(nx:(Int×List Int)->Prop):Prop :=
 if (decide (s.1<x9))=true then rZ x1 x2 x3 x4 x5 x6 x7 x8 s.1 x0 (fun y6=>nx (i64.wrap (s.1+1),y6)) (0,s.2)else K0 s.2
structure rU (x0 x1:Int)(x2:List Int)(x3:Int)(x4 x5:List Int)(x6:Int)(x7:List Int)(x8 x9:Int)(K0:(List Int)->Prop)(s:Int×List Int):Prop where
 it:Go.Mach.Loop (fP x0 x1 x2 x3 x4 x5 x6 x7 x8 x9 K0) s
structure oK (a0 a1 a2 a3 a4:Int)(a5:List Int)(a6:Int)(a7 a8:List Int)(a9:Int)(a10:List Int)(a11:Int)(Q:(oV×Int)->Prop):Prop where
 it:wW a2 (fun r1=>if (((!r1)||(decide (128<a3)))||(decide (a3<(-128))))=true then Q ((([]:List Int),(0,([]:List Int))),3)else j7 [a0,a1] (fun r2=>if (!r2)=true then Q ((([]:List Int),(0,([]:List Int))),1)else rU a1 a4 a5 a6 a7 a8 a9 a10 a11 a0 (fun y7=>Q (([a0,a1],(a3,y7)),0)) (0,([]:List Int))))
def CP:Ent:=⟨[1,4,10,12,39,40],[sI,.fn 179 [.bx [lI],.bx cR,.bx cR,.bx [lI]],sPt 0,sPt 1,sI,sI],[dG,.box [.cst (.own 2),lI,eE] false,oQa],fun⟨⟨a,⟨⟨b,_⟩,⟨c,d,e,_⟩,⟨f,g,i,_⟩,⟨j,_⟩,_⟩,_,_,l,m,_⟩,⟨⟨_,n,_⟩,⟨_,o,_⟩,p,_⟩⟩ k=>rU a b c d e f g i j l (fun y8=>k (.exit 1) ⟨[(10,.ptr 0 0),(12,.ptr 1 0)],[.box [aK,vI n,aK] false,.box [.own 2,vI o,.own 3] false,.lst true aD p false,.lst true aY y8 false]⟩) (m,([]:List Int))⟩
def CH:Ent:=⟨[1,4,10,12,13,39,40,43,44],[sI,.fn 179 [.bx [lI],.bx cR,.bx cR,.bx [lI]],sPt 0,sPt 1,sI,sI,sI,sI,sI],[dG,.box [.cst (.own 2),lI,.cst (.own 3)] false,oQa,oQc],fun⟨⟨a,⟨⟨b,_⟩,⟨c,d,e,_⟩,⟨f,g,i,_⟩,⟨j,_⟩,_⟩,_,_,l,m,n,o,p,_⟩,⟨⟨_,q,_⟩,⟨_,t,_⟩,u,w,_⟩⟩ k=>rZ b c d e f g i j l o (fun y9=>k (.exit 3) ⟨[(1,vI a),(4,.fn 179 [.bx [vI b] 0,.bx [vZ aD c,vI d,vZ aL e] 0,.bx [vZ aD f,vI g,vZ aL i] 0,.bx [vI j] 0]),(10,.ptr 0 0),(12,.ptr 1 0),(39,vI m),(40,vI n)],[.box [aK,vI q,aK] false,.box [.own 2,vI t,.own 3] false,.lst true aD u false,.lst true aY y9 false]⟩) (p,w)⟩
def DM:=X7.putX tt 156 Tryz.func156 [10,11] [(122,[⟨12,some 2,false,aY⟩]),(31334,[⟨12,some 2,false,aY⟩])] [(122,CP),(31334,CH)] [sI,sI,sI,sI,.fn 179 [.bx [lI],.bx cR,.bx cR,.bx [lI]]] [] [(true,tI),(false,aD)] (fun x=>oK x.1 x.2.1 x.2.2.1 x.2.2.2.1 x.2.2.2.2.1.1.1 x.2.2.2.2.1.2.1.1 x.2.2.2.2.1.2.1.2.1 x.2.2.2.2.1.2.1.2.2.1 x.2.2.2.2.1.2.2.1.1 x.2.2.2.2.1.2.2.1.2.1 x.2.2.2.2.1.2.2.1.2.2.1 x.2.2.2.2.1.2.2.2.1.1) [179] none false 0 hI0 ⟨fun _ _ hs ⟨⟨a,⟨⟨b,_⟩,⟨c,d,e,_⟩,⟨f,g,i,_⟩,⟨j,_⟩,_⟩,_,_,l,m,_⟩,⟨⟨_,n,_⟩,⟨_,o,_⟩,p,_⟩⟩ _ h=>fD hs (fun y=>⟨[(1,vI a),(4,.fn 179 [.bx [vI b] 0,.bx [vZ aD c,vI d,vZ aL e] 0,.bx [vZ aD f,vI g,vZ aL i] 0,.bx [vI j] 0]),(10,.ptr 0 0),(12,.ptr 1 0),(39,vI l),(40,vI y.1)],[.box [aK,vI n,aK] false,.box [.own 2,vI o,.own 3] false,.lst true aD p false,.lst true aY y.2 false]⟩) (m,([]:List Int)) h.it,fun _ _ hs ⟨⟨a,⟨⟨b,_⟩,⟨c,d,e,_⟩,⟨f,g,i,_⟩,⟨j,_⟩,_⟩,_,_,l,m,n,o,p,_⟩,⟨⟨_,q,_⟩,⟨_,t,_⟩,u,w,_⟩⟩ _ h=>aH hs (fun y=>⟨⟨a,⟨⟨b,()⟩,⟨c,d,e,()⟩,⟨f,g,i,()⟩,⟨j,()⟩,()⟩,(),(),l,m,n,o,y.1,()⟩,⟨⟨(),q,(),()⟩,⟨(),t,(),()⟩,u,y.2,()⟩⟩) (p,w) h.it,trivial⟩ fun _ _ h=>⟨_,h.it,by kernel_rfl⟩
structure O6 (a0 a1:aZ)(Q:(oV×Int)->Prop):Prop where
 it:DZ 2 [a0,a1] (fun r1=>if (r1 != 0)=true then Q ((([]:List Int),(0,([]:List Int))),r1)else ck (aF 0 a0.1.length) (ck (aF 1 a0.1.length) (ck (aF 1 a1.1.length) (ck (aF 0 a1.1.length) (if ((a1.1.getD 0 0) != (a0.1.getD 1 0))=true then Q ((([]:List Int),(0,([]:List Int))),2)else oK (a0.1.getD 0 0) (a1.1.getD 1 0) (a0.1.getD 1 0) (i64.wrap (a0.2.1+a1.2.1)) (a0.1.getD 1 0) a0.1 a0.2.1 a0.2.2 a1.1 a1.2.1 a1.2.2 (a1.1.getD 1 0) (fun r2=>Q (r2.1,r2.2)))))))
def aBq:=DM.put tt 137 Tryz.func137 [4,5] [] [] [.agg cR,.agg cR] [] [(true,tI),(false,aD)] (fun x=>O6 (x.1.1,(x.1.2.1,x.1.2.2.1)) (x.2.1.1,(x.2.1.2.1,x.2.1.2.2.1))) trivial fun _ _ h=>⟨_,h.it,by kernel_rfl⟩
def pN (x0 x1:Int)(x4:List Int)(x5:Int)(x8:List Int)(x9 x11:Int)(K0:Int->Prop)(s:Int×Int)(nx:(Int×Int)->Prop):Prop :=
 if (decide (s.2<x11))=true then ck (aF (i64.wrap ((i64.wrap (s.2*x5))+x0)) x4.length) (ck (aF (i64.wrap ((i64.wrap (s.2*x9))+x1)) x8.length) (nx (i64.wrap (s.1+(i64.wrap ((i64.wrap (x4.getD ((i64.wrap ((i64.wrap (s.2*x5))+x0)).toNat) 0))*(i64.wrap (x8.getD ((i64.wrap ((i64.wrap (s.2*x9))+x1)).toNat) 0))))),i64.wrap (s.2+1))))else K0 s.1
structure GC (x0 x1:Int)(x4:List Int)(x5:Int)(x8:List Int)(x9 x11:Int)(K0:Int->Prop)(s:Int×Int):Prop where
 it:Go.Mach.Loop (pN x0 x1 x4 x5 x8 x9 x11 K0) s
structure yW (a0 a1 a2:Int)(a3:List Int)(a4:Int)(a5:List Int)(a6:Int)(a7:List Int)(a8:Int)(a9:List Int)(a10:Int)(Q:Int->Prop):Prop where
 it:GC a0 a1 a5 a6 a9 a10 a2 (fun y1=>Q y1) (0,0)
def UW:Ent:=⟨[0,1,3,4,5,6,10,12,13],[sI,sI,.bx cR,.bx [lI],.bx cR,.bx [lI],sI,sI,sI],[],fun⟨⟨a,b,⟨_,_,e,_⟩,⟨f,_⟩,⟨_,_,j,_⟩,⟨l,_⟩,m,n,o,_⟩,_⟩ k=>GC a b e f j l n (fun y2=>k (.exit 0) ⟨[(10,vI y2)],[]⟩) (m,o)⟩
def VG:=aBq.put tt 176 Tryz.func176 [9] [] [(58,UW)] [sI,sI,.bx [lI],.bx cR,.bx [lI],.bx cR,.bx [lI]] [] [(false,aD)] (fun x=>yW x.1 x.2.1 x.2.2.1.1 x.2.2.2.1.1 x.2.2.2.1.2.1 x.2.2.2.1.2.2.1 x.2.2.2.2.1.1 x.2.2.2.2.2.1.1 x.2.2.2.2.2.1.2.1 x.2.2.2.2.2.1.2.2.1 x.2.2.2.2.2.2.1.1) ⟨fun _ _ hs ⟨⟨a,b,⟨c,d,e,_⟩,⟨f,_⟩,⟨g,i,j,_⟩,⟨l,_⟩,m,n,o,_⟩,_⟩ _ h=>aH hs (fun y=>⟨⟨a,b,⟨c,d,e,()⟩,⟨f,()⟩,⟨g,i,j,()⟩,⟨l,()⟩,y.1,n,y.2,()⟩,()⟩) (m,o) h.it,trivial⟩ fun _ _ h=>⟨_,h.it,by kernel_rfl⟩
def jQ (x1:Int)(x2:List Int)(x3:Int)(x4:List Int)(x5:Int)(x6:List Int)(x7:Int)(x8:List Int)(x9 x10 x13:Int)(K0:(List Int)->Prop)(s:Int×List Int)(nx:(Int×List Int)->Prop):Prop :=
 if (decide (s.1<x13))=true then yW x10 s.1 x1 x2 x3 x4 x5 x6 x7 x8 x9 (fun r6=>ck ((s.2.length+[i32.wrap r6].length)*4<=140737488355328) (nx (i64.wrap (s.1+1),s.2++[i32.wrap r6])))else K0 s.2
structure qP (x1:Int)(x2:List Int)(x3:Int)(x4:List Int)(x5:Int)(x6:List Int)(x7:Int)(x8:List Int)(x9 x10 x13:Int)(K0:(List Int)->Prop)(s:Int×List Int):Prop where
 it:Go.Mach.Loop (jQ x1 x2 x3 x4 x5 x6 x7 x8 x9 x10 x13 K0) s
def fH (x0 x1:Int)(x2:List Int)(x3:Int)(x4:List Int)(x5:Int)(x6:List Int)(x7:Int)(x8:List Int)(x9 x10:Int)(K0:(List Int)->Prop)(s:Int×List Int)(nx:(Int×List Int)->Prop):Prop :=
 if (decide (s.1<x10))=true then qP x1 x2 x3 x4 x5 x6 x7 x8 x9 s.1 x0 (fun y6=>nx (i64.wrap (s.1+1),y6)) (0,s.2)else K0 s.2
structure qN (x0 x1:Int)(x2:List Int)(x3:Int)(x4:List Int)(x5:Int)(x6:List Int)(x7:Int)(x8:List Int)(x9 x10:Int)(K0:(List Int)->Prop)(s:Int×List Int):Prop where
 it:Go.Mach.Loop (fH x0 x1 x2 x3 x4 x5 x6 x7 x8 x9 x10 K0) s
structure nT (a0 a1 a2 a3 a4:Int)(a5:List Int)(a6:Int)(a7:List Int)(a8:Int)(a9:List Int)(a10:Int)(a11:List Int)(a12:Int)(Q:(oV×Int)->Prop):Prop where
 it:wW a2 (fun r1=>if (((!r1)||(decide (128<a3)))||(decide (a3<(-128))))=true then Q ((([]:List Int),(0,([]:List Int))),3)else j7 [a0,a1] (fun r2=>if (!r2)=true then Q ((([]:List Int),(0,([]:List Int))),1)else qN a1 a4 a5 a6 a7 a8 a9 a10 a11 a12 a0 (fun y7=>Q (([a0,a1],(a3,y7)),0)) (0,([]:List Int))))
def BT:Ent:=⟨[1,4,10,12,39,40],[sI,.fn 176 [.bx [lI],.bx cR,.bx [lI],.bx cR,.bx [lI]],sPt 0,sPt 1,sI,sI],[dG,.box [.cst (.own 2),lI,eE] false,oQa],fun⟨⟨a,⟨⟨b,_⟩,⟨c,d,e,_⟩,⟨f,_⟩,⟨g,i,j,_⟩,⟨l,_⟩,_⟩,_,_,m,n,_⟩,⟨⟨_,o,_⟩,⟨_,p,_⟩,q,_⟩⟩ k=>qN a b c d e f g i j l m (fun y8=>k (.exit 1) ⟨[(10,.ptr 0 0),(12,.ptr 1 0)],[.box [aK,vI o,aK] false,.box [.own 2,vI p,.own 3] false,.lst true aD q false,.lst true aY y8 false]⟩) (n,([]:List Int))⟩
def A9:Ent:=⟨[1,4,10,12,13,39,40,43,44],[sI,.fn 176 [.bx [lI],.bx cR,.bx [lI],.bx cR,.bx [lI]],sPt 0,sPt 1,sI,sI,sI,sI,sI],[dG,.box [.cst (.own 2),lI,.cst (.own 3)] false,oQa,oQc],fun⟨⟨a,⟨⟨b,_⟩,⟨c,d,e,_⟩,⟨f,_⟩,⟨g,i,j,_⟩,⟨l,_⟩,_⟩,_,_,m,n,o,p,q,_⟩,⟨⟨_,t,_⟩,⟨_,u,_⟩,w,z,_⟩⟩ k=>qP b c d e f g i j l m p (fun y9=>k (.exit 3) ⟨[(1,vI a),(4,.fn 176 [.bx [vI b] 0,.bx [vZ aD c,vI d,vZ aL e] 0,.bx [vI f] 0,.bx [vZ aD g,vI i,vZ aL j] 0,.bx [vI l] 0]),(10,.ptr 0 0),(12,.ptr 1 0),(39,vI n),(40,vI o)],[.box [aK,vI t,aK] false,.box [.own 2,vI u,.own 3] false,.lst true aD w false,.lst true aY y9 false]⟩) (q,z)⟩
def CD:=VG.putX tt 156 Tryz.func156 [10,11] [(122,[⟨12,some 2,false,aY⟩]),(31334,[⟨12,some 2,false,aY⟩])] [(122,BT),(31334,A9)] [sI,sI,sI,sI,.fn 176 [.bx [lI],.bx cR,.bx [lI],.bx cR,.bx [lI]]] [] [(true,tI),(false,aD)] (fun x=>nT x.1 x.2.1 x.2.2.1 x.2.2.2.1 x.2.2.2.2.1.1.1 x.2.2.2.2.1.2.1.1 x.2.2.2.2.1.2.1.2.1 x.2.2.2.2.1.2.1.2.2.1 x.2.2.2.2.1.2.2.1.1 x.2.2.2.2.1.2.2.2.1.1 x.2.2.2.2.1.2.2.2.1.2.1 x.2.2.2.2.1.2.2.2.1.2.2.1 x.2.2.2.2.1.2.2.2.2.1.1) [176] none false 0 hI0 ⟨fun _ _ hs ⟨⟨a,⟨⟨b,_⟩,⟨c,d,e,_⟩,⟨f,_⟩,⟨g,i,j,_⟩,⟨l,_⟩,_⟩,_,_,m,n,_⟩,⟨⟨_,o,_⟩,⟨_,p,_⟩,q,_⟩⟩ _ h=>fD hs (fun y=>⟨[(1,vI a),(4,.fn 176 [.bx [vI b] 0,.bx [vZ aD c,vI d,vZ aL e] 0,.bx [vI f] 0,.bx [vZ aD g,vI i,vZ aL j] 0,.bx [vI l] 0]),(10,.ptr 0 0),(12,.ptr 1 0),(39,vI m),(40,vI y.1)],[.box [aK,vI o,aK] false,.box [.own 2,vI p,.own 3] false,.lst true aD q false,.lst true aY y.2 false]⟩) (n,([]:List Int)) h.it,fun _ _ hs ⟨⟨a,⟨⟨b,_⟩,⟨c,d,e,_⟩,⟨f,_⟩,⟨g,i,j,_⟩,⟨l,_⟩,_⟩,_,_,m,n,o,p,q,_⟩,⟨⟨_,t,_⟩,⟨_,u,_⟩,w,z,_⟩⟩ _ h=>aH hs (fun y=>⟨⟨a,⟨⟨b,()⟩,⟨c,d,e,()⟩,⟨f,()⟩,⟨g,i,j,()⟩,⟨l,()⟩,()⟩,(),(),m,n,o,p,y.1,()⟩,⟨⟨(),t,(),()⟩,⟨(),u,(),()⟩,w,y.2,()⟩⟩) (q,z) h.it,trivial⟩ fun _ _ h=>⟨_,h.it,by kernel_rfl⟩
structure L8 (a0 a1:aZ)(Q:(oV×Int)->Prop):Prop where
 it:DZ 2 [a0,a1] (fun r1=>if (r1 != 0)=true then Q ((([]:List Int),(0,([]:List Int))),r1)else ck (aF 0 a0.1.length) (ck (aF 1 a0.1.length) (ck (aF 1 a1.1.length) (ck (aF 0 a1.1.length) (if ((a1.1.getD 0 0) != (a0.1.getD 0 0))=true then Q ((([]:List Int),(0,([]:List Int))),2)else nT (a0.1.getD 1 0) (a1.1.getD 1 0) (a0.1.getD 0 0) (i64.wrap (a0.2.1+a1.2.1)) (a0.1.getD 0 0) a0.1 a0.2.1 a0.2.2 (a0.1.getD 1 0) a1.1 a1.2.1 a1.2.2 (a1.1.getD 1 0) (fun r2=>Q (r2.1,r2.2)))))))
def aAo:=CD.put tt 132 Tryz.func132 [4,5] [] [] [.agg cR,.agg cR] [] [(true,tI),(false,aD)] (fun x=>L8 (x.1.1,(x.1.2.1,x.1.2.2.1)) (x.2.1.1,(x.2.1.2.1,x.2.1.2.2.1))) trivial fun _ _ h=>⟨_,h.it,by kernel_rfl⟩
def tC (x0:Int)(x3:List Int)(x4 x6:Int)(K0:Int->Prop)(s:Int×Int)(nx:(Int×Int)->Prop):Prop :=
 if (decide (s.2<x6))=true then ck (aF (i64.wrap ((i64.wrap (s.2*x4))+x0)) x3.length) (nx (i64.wrap (s.1+(i64.wrap (x3.getD ((i64.wrap ((i64.wrap (s.2*x4))+x0)).toNat) 0))),i64.wrap (s.2+1)))else K0 s.1
structure MR (x0:Int)(x3:List Int)(x4 x6:Int)(K0:Int->Prop)(s:Int×Int):Prop where
 it:Go.Mach.Loop (tC x0 x3 x4 x6 K0) s
structure DU (a0 a1 a2:Int)(a3:List Int)(a4:Int)(a5:List Int)(a6:Int)(Q:Int->Prop):Prop where
 it:MR a1 a5 a6 a2 (fun y1=>Q y1) (0,0)
def XY:Ent:=⟨[1,3,4,8,10,11],[sI,.bx cR,.bx [lI],sI,sI,sI],[],fun⟨⟨a,⟨_,_,d,_⟩,⟨e,_⟩,f,g,i,_⟩,_⟩ k=>MR a d e g (fun y2=>k (.exit 0) ⟨[(8,vI y2)],[]⟩) (f,i)⟩
def Z5:=aAo.put tt 177 Tryz.func177 [7] [] [(58,XY)] [sI,sI,.bx [lI],.bx cR,.bx [lI]] [] [(false,aD)] (fun x=>DU x.1 x.2.1 x.2.2.1.1 x.2.2.2.1.1 x.2.2.2.1.2.1 x.2.2.2.1.2.2.1 x.2.2.2.2.1.1) ⟨fun _ _ hs ⟨⟨a,⟨b,c,d,_⟩,⟨e,_⟩,f,g,i,_⟩,_⟩ _ h=>aH hs (fun y=>⟨⟨a,⟨b,c,d,()⟩,⟨e,()⟩,y.1,g,y.2,()⟩,()⟩) (f,i) h.it,trivial⟩ fun _ _ h=>⟨_,h.it,by kernel_rfl⟩
def kV (x1:Int)(x2:List Int)(x3:Int)(x4:List Int)(x5 x6 x9:Int)(K0:(List Int)->Prop)(s:Int×List Int)(nx:(Int×List Int)->Prop):Prop :=
 if (decide (s.1<x9))=true then DU x6 s.1 x1 x2 x3 x4 x5 (fun r6=>ck ((s.2.length+[i32.wrap r6].length)*4<=140737488355328) (nx (i64.wrap (s.1+1),s.2++[i32.wrap r6])))else K0 s.2
structure s8 (x1:Int)(x2:List Int)(x3:Int)(x4:List Int)(x5 x6 x9:Int)(K0:(List Int)->Prop)(s:Int×List Int):Prop where
 it:Go.Mach.Loop (kV x1 x2 x3 x4 x5 x6 x9 K0) s
def f8 (x0 x1:Int)(x2:List Int)(x3:Int)(x4:List Int)(x5 x6:Int)(K0:(List Int)->Prop)(s:Int×List Int)(nx:(Int×List Int)->Prop):Prop :=
 if (decide (s.1<x6))=true then s8 x1 x2 x3 x4 x5 s.1 x0 (fun y6=>nx (i64.wrap (s.1+1),y6)) (0,s.2)else K0 s.2
structure sV (x0 x1:Int)(x2:List Int)(x3:Int)(x4:List Int)(x5 x6:Int)(K0:(List Int)->Prop)(s:Int×List Int):Prop where
 it:Go.Mach.Loop (f8 x0 x1 x2 x3 x4 x5 x6 K0) s
structure o9 (a0 a1 a2 a3 a4:Int)(a5:List Int)(a6:Int)(a7:List Int)(a8:Int)(Q:(oV×Int)->Prop):Prop where
 it:wW a2 (fun r1=>if (((!r1)||(decide (128<a3)))||(decide (a3<(-128))))=true then Q ((([]:List Int),(0,([]:List Int))),3)else j7 [a0,a1] (fun r2=>if (!r2)=true then Q ((([]:List Int),(0,([]:List Int))),1)else sV a1 a4 a5 a6 a7 a8 a0 (fun y7=>Q (([a0,a1],(a3,y7)),0)) (0,([]:List Int))))
def DI:Ent:=⟨[1,4,10,12,39,40],[sI,.fn 177 [.bx [lI],.bx cR,.bx [lI]],sPt 0,sPt 1,sI,sI],[dG,.box [.cst (.own 2),lI,eE] false,oQa],fun⟨⟨a,⟨⟨b,_⟩,⟨c,d,e,_⟩,⟨f,_⟩,_⟩,_,_,g,i,_⟩,⟨⟨_,j,_⟩,⟨_,l,_⟩,m,_⟩⟩ k=>sV a b c d e f g (fun y8=>k (.exit 1) ⟨[(10,.ptr 0 0),(12,.ptr 1 0)],[.box [aK,vI j,aK] false,.box [.own 2,vI l,.own 3] false,.lst true aD m false,.lst true aY y8 false]⟩) (i,([]:List Int))⟩
def DB:Ent:=⟨[1,4,10,12,13,39,40,43,44],[sI,.fn 177 [.bx [lI],.bx cR,.bx [lI]],sPt 0,sPt 1,sI,sI,sI,sI,sI],[dG,.box [.cst (.own 2),lI,.cst (.own 3)] false,oQa,oQc],fun⟨⟨a,⟨⟨b,_⟩,⟨c,d,e,_⟩,⟨f,_⟩,_⟩,_,_,g,i,j,l,m,_⟩,⟨⟨_,n,_⟩,⟨_,o,_⟩,p,q,_⟩⟩ k=>s8 b c d e f g l (fun y9=>k (.exit 3) ⟨[(1,vI a),(4,.fn 177 [.bx [vI b] 0,.bx [vZ aD c,vI d,vZ aL e] 0,.bx [vI f] 0]),(10,.ptr 0 0),(12,.ptr 1 0),(39,vI i),(40,vI j)],[.box [aK,vI n,aK] false,.box [.own 2,vI o,.own 3] false,.lst true aD p false,.lst true aY y9 false]⟩) (m,q)⟩
def EY:=Z5.putX tt 156 Tryz.func156 [10,11] [(122,[⟨12,some 2,false,aY⟩]),(31334,[⟨12,some 2,false,aY⟩])] [(122,DI),(31334,DB)] [sI,sI,sI,sI,.fn 177 [.bx [lI],.bx cR,.bx [lI]]] [] [(true,tI),(false,aD)] (fun x=>o9 x.1 x.2.1 x.2.2.1 x.2.2.2.1 x.2.2.2.2.1.1.1 x.2.2.2.2.1.2.1.1 x.2.2.2.2.1.2.1.2.1 x.2.2.2.2.1.2.1.2.2.1 x.2.2.2.2.1.2.2.1.1) [177] none false 0 hI0 ⟨fun _ _ hs ⟨⟨a,⟨⟨b,_⟩,⟨c,d,e,_⟩,⟨f,_⟩,_⟩,_,_,g,i,_⟩,⟨⟨_,j,_⟩,⟨_,l,_⟩,m,_⟩⟩ _ h=>fD hs (fun y=>⟨[(1,vI a),(4,.fn 177 [.bx [vI b] 0,.bx [vZ aD c,vI d,vZ aL e] 0,.bx [vI f] 0]),(10,.ptr 0 0),(12,.ptr 1 0),(39,vI g),(40,vI y.1)],[.box [aK,vI j,aK] false,.box [.own 2,vI l,.own 3] false,.lst true aD m false,.lst true aY y.2 false]⟩) (i,([]:List Int)) h.it,fun _ _ hs ⟨⟨a,⟨⟨b,_⟩,⟨c,d,e,_⟩,⟨f,_⟩,_⟩,_,_,g,i,j,l,m,_⟩,⟨⟨_,n,_⟩,⟨_,o,_⟩,p,q,_⟩⟩ _ h=>aH hs (fun y=>⟨⟨a,⟨⟨b,()⟩,⟨c,d,e,()⟩,⟨f,()⟩,()⟩,(),(),g,i,j,l,y.1,()⟩,⟨⟨(),n,(),()⟩,⟨(),o,(),()⟩,p,y.2,()⟩⟩) (m,q) h.it,trivial⟩ fun _ _ h=>⟨_,h.it,by kernel_rfl⟩
structure GY  (K0:Unit->Prop):Prop where
 it:K0 ()
structure RW (a0:aZ)(Q:(oV×Int)->Prop):Prop where
 it:DZ 2 [a0] (fun r1=>if (r1 != 0)=true then Q ((([]:List Int),(0,([]:List Int))),r1)else ck (aF 0 a0.1.length) (ck (aF 1 a0.1.length) (o9 1 (a0.1.getD 1 0) (a0.1.getD 0 0) a0.2.1 (a0.1.getD 0 0) a0.1 a0.2.1 a0.2.2 (a0.1.getD 1 0) (fun r2=>if (r2.2==0)=true then GY (fun _=>Q (([a0.1.getD 1 0],r2.1.2),r2.2))else GY (fun _=>Q (r2.1,r2.2))))))
def aBu:Ent:=⟨[2,7,8],[sPt 0,sPt 1,sI],[dG,.box [.cst (.own 2),lI,.cst (.own 3)] false,oQa,oQc],fun⟨⟨_,_,a,_⟩,⟨_,⟨_,c,_⟩,d,e,_⟩⟩ k=>GY (fun _=>k .ret ⟨[(2,.ptr 0 0),(3,vI a)],[.box [.own 1,vI c,.own 2] false,.lst true aD d false,.lst true aY e false]⟩)⟩
def aEL:=EY.put tt 133 Tryz.func133 [2,3] [] [(63,aBu)] [.agg cR] [] [(true,tI),(false,aD)] (fun x=>RW (x.1.1,(x.1.2.1,x.1.2.2.1))) ⟨fun _ _ hs ⟨⟨_,_,_,_⟩,⟨_,⟨_,_,_⟩,_,_,_⟩⟩ _ h=>aN hs h.it,trivial⟩ fun _ _ h=>⟨_,h.it,by kernel_rfl⟩
structure AV (x11:Int)(K0:Int->Prop):Prop where
 it:K0 (i64.wrap (x11+1))
def qU (x0 x1 x2 x3 x4 x5 x10:Int)(x18:List bG)(K0:(List bG)->Prop)(s:Int×List bG)(nx:(Int×List bG)->Prop):Prop :=
 if (decide (s.1<x10))=true then ck (aF s.1 x18.length) (if (((x18.getD ((s.1).toNat) (0,(0,0))).1)==(i64.wrap ((i64.wrap (x1*x0))+x2)))=true then ck ((s.2.length+[(i64.wrap ((i64.wrap (x4*x3))+x5),(x18.getD ((s.1).toNat) (0,(0,0))).2)].length)*24<=140737488355328) (AV s.1 (fun y16=>nx (y16,(s.2++[(i64.wrap ((i64.wrap (x4*x3))+x5),(x18.getD ((s.1).toNat) (0,(0,0))).2)]))))else AV s.1 (fun y17=>nx (y17,s.2)))else K0 s.2
structure AJ (x0 x1 x2 x3 x4 x5 x10:Int)(x18:List bG)(K0:(List bG)->Prop)(s:Int×List bG):Prop where
 it:Go.Mach.Loop (qU x0 x1 x2 x3 x4 x5 x10 x18 K0) s
def q8 (x0 x1 x2 x3 x4 x7 x9 x10 x11 x12 x13:Int)(K0:(List bG)->Prop)(s:Int×List bG)(nx:(Int×List bG)->Prop):Prop :=
 if (decide (s.1<x7))=true then qW (x9,(x10,(x11,(x12,x13)))) x4 s.1 (fun r15=>AJ x0 x1 x2 x3 x4 s.1 (r15.length:Int) r15 (fun y16=>nx (i64.wrap (s.1+1),y16)) (0,s.2))else K0 s.2
structure AA (x0 x1 x2 x3 x4 x7 x9 x10 x11 x12 x13:Int)(K0:(List bG)->Prop)(s:Int×List bG):Prop where
 it:Go.Mach.Loop (q8 x0 x1 x2 x3 x4 x7 x9 x10 x11 x12 x13 K0) s
def qS (x0 x1 x2 x3 x4 x6 x7 x8 x9 x10:Int)(K0:(List bG)->Prop)(s:Int×List bG)(nx:(Int×List bG)->Prop):Prop :=
 if (decide (s.1<x4))=true then AA x0 x1 x2 x3 s.1 x3 x6 x7 x8 x9 x10 (fun y15=>nx (i64.wrap (s.1+1),y15)) (0,s.2)else K0 s.2
structure I3 (x0 x1 x2 x3 x4 x6 x7 x8 x9 x10:Int)(K0:(List bG)->Prop)(s:Int×List bG):Prop where
 it:Go.Mach.Loop (qS x0 x1 x2 x3 x4 x6 x7 x8 x9 x10 K0) s
structure HV (a0 a1 a2 a3 a4 a5 a6:Int)(Q:(List bG)->Prop):Prop where
 it:B6 (a0,(a1,(a4,(a5,a6)))) (fun r1=>jn (fun v2=>jn (fun v5=>if v5=true then Q ([]:List bG)else I3 a1 a2 a3 r1.2 r1.1 a0 a1 a4 a5 a6 (fun y16=>Q y16) (0,([]:List bG))) (fun J6=>if v2=true then J6 true else wG a3 0 (i64.wrap (a1-1)) (fun r7=>J6 (!r7)))) (fun J3=>if ((decide (r1.1<1))||(decide (r1.2<1)))=true then J3 true else wG a2 0 (i64.wrap (a0-1)) (fun r4=>J3 (!r4))))
def WQ:Ent:=⟨[1,2,3,15,17,18,54,55],[sI,sI,sI,sPt 0,sI,aDV,sI,sI],[.box [lI,lI,lI,lI,lI] false],fun⟨⟨a,b,c,_,d,_,e,f,_⟩,⟨⟨g,i,j,l,m,_⟩,_⟩⟩ k=>I3 a b c d e g i j l m (fun y17=>k (.exit 0) ⟨[(18,.own 0)],[.lst true bN y17 false]⟩) (f,([]:List bG))⟩
def VA:Ent:=⟨[1,2,3,15,17,18,19,54,55,58,59],[sI,sI,sI,sPt 0,sI,sC (.own 1),sI,sI,sI,sI,sI],[.box [lI,lI,lI,lI,lI] false,.lst true bN false],fun⟨⟨a,b,c,_,d,_,e,f,g,i,j,_⟩,⟨⟨l,m,n,o,p,_⟩,q,_⟩⟩ k=>AA a b c d e i l m n o p (fun y18=>k (.exit 2) ⟨[(1,vI a),(2,vI b),(3,vI c),(15,.ptr 0 0),(17,vI d),(18,.own 1),(54,vI f),(55,vI g)],[.box [vI l,vI m,vI n,vI o,vI p] false,.lst true bN y18 false]⟩) (j,q)⟩
def WD:Ent:=⟨[1,2,3,15,17,18,19,20,54,55,58,59,65,66,67],[sI,sI,sI,sPt 0,sI,sC (.own 1),sI,sI,sI,sI,sI,sI,sC (.own 2),sI,sI],[.box [lI,lI,lI,lI,lI] false,.lst true bN false,.lst true bN false],fun⟨⟨a,b,c,_,d,_,e,f,g,i,j,l,_,m,n,_⟩,⟨⟨o,p,q,t,u,_⟩,w,z,_⟩⟩ k=>AJ a b c d e f m z (fun y19=>k (.exit 4) ⟨[(1,vI a),(2,vI b),(3,vI c),(15,.ptr 0 0),(17,vI d),(18,.own 1),(19,vI e),(54,vI g),(55,vI i),(58,vI j),(59,vI l)],[.box [vI o,vI p,vI q,vI t,vI u] false,.lst true bN y19 false]⟩) (n,w)⟩
def VP:Ent:=⟨[1,2,3,15,17,18,19,20,54,55,58,59,65,66,67],[sI,sI,sI,sPt 0,sI,sC (.own 1),sI,sI,sI,sI,sI,sI,sC (.own 2),sI,sI],[.box [lI,lI,lI,lI,lI] false,.lst true bN false,.lst true bN false],fun⟨⟨a,b,c,_,d,_,e,f,g,i,j,l,_,m,n,_⟩,⟨⟨o,p,q,t,u,_⟩,w,z,_⟩⟩ k=>AV n (fun y20=>k .normal ⟨[(1,vI a),(2,vI b),(3,vI c),(15,.ptr 0 0),(17,vI d),(18,.own 1),(19,vI e),(20,vI f),(54,vI g),(55,vI i),(58,vI j),(59,vI l),(65,.own 2),(66,vI m),(67,vI y20)],[.box [vI o,vI p,vI q,vI t,vI u] false,.lst true bN w false,.lst true bN z false]⟩)⟩
def X4:=aEL.put tt 190 Tryz.func190 [14] [(506,[⟨18,none,false,bN⟩]),(129638,[⟨18,none,false,bN⟩]),(33187430,[⟨18,none,false,bN⟩])] [(506,WQ),(129638,VA),(33187430,WD),(530998887,VP)] [sI,sI,sI,sI,sI,sI,sI] [] [(false,(.slc bN))] (fun x=>HV x.1 x.2.1 x.2.2.1 x.2.2.2.1 x.2.2.2.2.1 x.2.2.2.2.2.1 x.2.2.2.2.2.2.1) ⟨fun _ _ hs ⟨⟨a,b,c,_,d,_,e,f,_⟩,⟨⟨g,i,j,l,m,_⟩,_⟩⟩ _ h=>fD hs (fun y=>⟨[(1,vI a),(2,vI b),(3,vI c),(15,.ptr 0 0),(17,vI d),(18,.own 1),(54,vI e),(55,vI y.1)],[.box [vI g,vI i,vI j,vI l,vI m] false,.lst true bN y.2 false]⟩) (f,([]:List bG)) h.it,fun _ _ hs ⟨⟨a,b,c,_,d,_,e,f,g,i,j,_⟩,⟨⟨l,m,n,o,p,_⟩,q,_⟩⟩ _ h=>aH hs (fun y=>⟨⟨a,b,c,(),d,(),e,f,g,i,y.1,()⟩,⟨⟨l,m,n,o,p,()⟩,y.2,()⟩⟩) (j,q) h.it,fun _ _ hs ⟨⟨a,b,c,_,d,_,e,f,g,i,j,l,_,m,n,_⟩,⟨⟨o,p,q,t,u,_⟩,w,z,_⟩⟩ _ h=>aH hs (fun y=>⟨⟨a,b,c,(),d,(),e,f,g,i,j,l,(),m,y.1,()⟩,⟨⟨o,p,q,t,u,()⟩,y.2,z,()⟩⟩) (n,w) h.it,fun _ _ hs ⟨⟨_,_,_,_,_,_,_,_,_,_,_,_,_,_,_,_⟩,⟨⟨_,_,_,_,_,_⟩,_,_,_⟩⟩ _ h=>aN hs h.it,trivial⟩ fun _ _ h=>⟨_,h.it,by kernel_rfl⟩
structure BS (a0:aKc)(a1 a2:Int)(Q:(List bG)->Prop):Prop where
 it:HV a0.1 a0.2.1 a1 a2 a0.2.2.1 a0.2.2.2.1 a0.2.2.2.2.1 (fun r1=>Q r1)
def L9:=X4.put tt 180 Tryz.func180 [6] [] [] [.agg [lI,lI,lI,lI,lI,lI,lI],sI,sI] [] [(false,(.slc bN))] (fun x=>BS (x.1.1,(x.1.2.1,(x.1.2.2.1,(x.1.2.2.2.1,(x.1.2.2.2.2.1,(x.1.2.2.2.2.2.1,x.1.2.2.2.2.2.2.1)))))) x.2.1 x.2.2.1) trivial fun _ _ h=>⟨_,h.it,by kernel_rfl⟩
def wN (x3 x4 x5 x6 x8 x9 x11 x20:Int)(x24 x27:List Int)(x38:List bG)(K0:Int->Prop)(s:Int×Int)(nx:(Int×Int)->Prop):Prop :=
 if (decide (s.2<x20))=true then ck (aF s.2 x38.length) (ck (aF (i64.wrap ((i64.wrap ((i64.wrap ((i64.wrap (x8*x3))+x11))*x6))+((x38.getD ((s.2).toNat) (0,(0,0))).1))) x24.length) (ck (aF (i64.wrap ((i64.wrap ((i64.wrap ((i64.wrap ((i64.wrap ((i64.wrap (x11*x4))+x9))*x5))+(((x38.getD ((s.2).toNat) (0,(0,0))).2).1)))*x5))+(((x38.getD ((s.2).toNat) (0,(0,0))).2).2))) x27.length) (nx (i64.wrap (s.1+(i64.wrap ((i64.wrap (x24.getD ((i64.wrap ((i64.wrap ((i64.wrap ((i64.wrap (x8*x3))+x11))*x6))+((x38.getD ((s.2).toNat) (0,(0,0))).1))).toNat) 0))*(i64.wrap (x27.getD ((i64.wrap ((i64.wrap ((i64.wrap ((i64.wrap ((i64.wrap ((i64.wrap (x11*x4))+x9))*x5))+(((x38.getD ((s.2).toNat) (0,(0,0))).2).1)))*x5))+(((x38.getD ((s.2).toNat) (0,(0,0))).2).2))).toNat) 0))))),i64.wrap (s.2+1)))))else K0 s.1
structure GN (x3 x4 x5 x6 x8 x9 x11 x20:Int)(x24 x27:List Int)(x38:List bG)(K0:Int->Prop)(s:Int×Int):Prop where
 it:Go.Mach.Loop (wN x3 x4 x5 x6 x8 x9 x11 x20 x24 x27 x38 K0) s
def wP (x3 x4 x5 x6 x8 x9 x17:Int)(x21 x24:List Int)(x35:List bG)(K0:Int->Prop)(s:Int×Int)(nx:(Int×Int)->Prop):Prop :=
 if (decide (s.2<x17))=true then GN x3 x4 x5 x6 x8 x9 s.2 (x35.length:Int) x21 x24 x35 (fun y13=>nx (y13,i64.wrap (s.2+1))) (s.1,0)else K0 s.1
structure HI (x3 x4 x5 x6 x8 x9 x17:Int)(x21 x24:List Int)(x35:List bG)(K0:Int->Prop)(s:Int×Int):Prop where
 it:Go.Mach.Loop (wP x3 x4 x5 x6 x8 x9 x17 x21 x24 x35 K0) s
def wR (x0 x1 x3 x4 x5 x6 x7 x8 x13:Int)(x17 x20:List Int)(x31:List bG)(K0:(List Int)->Prop)(s:Int×List Int)(nx:(Int×List Int)->Prop):Prop :=
 if (decide (s.1<x13))=true then HI x3 x4 x5 x6 x8 s.1 x3 x17 x20 x31 (fun y13=>ck (aF (i64.wrap ((i64.wrap ((i64.wrap ((i64.wrap ((i64.wrap (x8*x4))+s.1))*x0))*x1))+x7)) s.2.length) (nx (i64.wrap (s.1+1),s.2.set ((i64.wrap ((i64.wrap ((i64.wrap ((i64.wrap ((i64.wrap (x8*x4))+s.1))*x0))*x1))+x7)).toNat) (i32.wrap y13)))) (0,0)else K0 s.2
structure HO (x0 x1 x3 x4 x5 x6 x7 x8 x13:Int)(x17 x20:List Int)(x31:List bG)(K0:(List Int)->Prop)(s:Int×List Int):Prop where
 it:Go.Mach.Loop (wR x0 x1 x3 x4 x5 x6 x7 x8 x13 x17 x20 x31 K0) s
def wL (x0 x1 x3 x4 x5 x6 x7 x10:Int)(x14 x17:List Int)(x28:List bG)(K0:(List Int)->Prop)(s:Int×List Int)(nx:(Int×List Int)->Prop):Prop :=
 if (decide (s.1<x10))=true then HO x0 x1 x3 x4 x5 x6 x7 s.1 x4 x14 x17 x28 (fun y13=>nx (i64.wrap (s.1+1),y13)) (0,s.2)else K0 s.2
structure GW (x0 x1 x3 x4 x5 x6 x7 x10:Int)(x14 x17:List Int)(x28:List bG)(K0:(List Int)->Prop)(s:Int×List Int):Prop where
 it:Go.Mach.Loop (wL x0 x1 x3 x4 x5 x6 x7 x10 x14 x17 x28 K0) s
def wO (x0 x1 x2 x3 x4 x5 x6 x7:Int)(x11 x14:List Int)(x16 x17 x18 x19 x20 x21 x22:Int)(K0:(List Int)->Prop)(s:Int×List Int)(nx:(Int×List Int)->Prop):Prop :=
 if (decide (s.1<x7))=true then ck (x1≠(0:Int)) (ck (x1≠(0:Int)) (BS (x16,(x17,(x18,(x19,(x20,(x21,x22)))))) (i64.wrap ((s.1).tdiv x1)) ((s.1).tmod x1) (fun r12=>GW x0 x1 x3 x4 x5 x6 s.1 x2 x11 x14 r12 (fun y13=>nx (i64.wrap (s.1+1),y13)) (0,s.2))))else K0 s.2
structure HU (x0 x1 x2 x3 x4 x5 x6 x7:Int)(x11 x14:List Int)(x16 x17 x18 x19 x20 x21 x22:Int)(K0:(List Int)->Prop)(s:Int×List Int):Prop where
 it:Go.Mach.Loop (wO x0 x1 x2 x3 x4 x5 x6 x7 x11 x14 x16 x17 x18 x19 x20 x21 x22 K0) s
structure RJ (x0 x1 x2 x3 x4 x5 x6:Int)(x9 x12:List Int)(x14 x15 x16 x17 x18 x19 x20:Int)(x23:List Int)(K0:(Int×List Int)->Prop):Prop where
 it:if (x6 != 0)=true then K0 (x6,x23)else HU x0 x1 x2 x3 x4 x5 (i64.wrap (x19*x20)) (i64.wrap (x0*x1)) x9 x12 x14 x15 x16 x17 x18 x19 x20 (fun y12=>K0 (0,y12)) (0,x23)
structure R3 (a0 a1:aZ)(a2 a3 a4 a5:Int)(Q:(oV×Int)->Prop):Prop where
 it:PA [a0,a1] (fun r1=>if (r1 != 0)=true then Q ((([]:List Int),(0,([]:List Int))),r1)else ck (aF 0 a0.1.length) (ck (aF 1 a0.1.length) (ck (aF 1 a1.1.length) (ck (aF 2 a1.1.length) (QF a2 a3 (a1.1.getD 2 0) a4 a5 (fun r2=>jn (fun v3=>jn (fun v5=>jn (fun v7=>jn (fun v9=>if v9=true then Q ((([]:List Int),(0,([]:List Int))),2)else EQ (i64.wrap ((i64.wrap ((a0.1.getD 1 0)*(a1.1.getD 2 0)))*(a1.1.getD 2 0))) (i64.wrap (a0.2.1+a1.2.1)) [a0.1.getD 0 0,a1.1.getD 1 0,a2,a3] (fun r11=>RJ a2 a3 (a0.1.getD 0 0) (a0.1.getD 1 0) (a1.1.getD 1 0) (a1.1.getD 2 0) r11.2 a0.2.2 a1.2.2 r2.1.1 r2.1.2.1 r2.1.2.2.1 r2.1.2.2.2.1 r2.1.2.2.2.2.1 r2.1.2.2.2.2.2.1 r2.1.2.2.2.2.2.2 r11.1.2.2 (fun y13=>Q ((r11.1.1,(r11.1.2.1,y13.2)),y13.1)))) (fun J10=>if v7=true then J10 true else ck (aF 3 a0.1.length) (J10 ((a0.1.getD 3 0) != r2.1.2.2.2.2.2.2)))) (fun J8=>if v5=true then J8 true else ck (aF 2 a0.1.length) (J8 ((a0.1.getD 2 0) != r2.1.2.2.2.2.2.1)))) (fun J6=>if v3=true then J6 true else ck (aF 3 a1.1.length) (J6 ((a1.1.getD 3 0) != (a1.1.getD 2 0))))) (fun J4=>if (!r2.2)=true then J4 true else ck (aF 0 a1.1.length) (J4 ((a1.1.getD 0 0) != (a0.1.getD 1 0))))))))))
def aBa:Ent:=⟨[2,3,6,7,12,15,16,17,18,19,21,22],[sI,sI,sPt 0,sPt 1,sPt 2,sI,sI,sI,sI,sPt 3,sPt 4,sI],[bT,bT,dG,.box [lI,lI,lI,lI,lI,lI,lI] false,.box [lZ aD,lI,.cst (.own 5)] false,oQc],fun⟨⟨a,b,_,_,_,c,d,e,f,_,_,g,_⟩,⟨⟨_,_,l,_⟩,⟨_,_,o,_⟩,_,⟨q,t,u,w,z,a0,a1,_⟩,⟨a2,a3,_⟩,a4,_⟩⟩ k=>RJ a b c d e f g l o q t u w z a0 a1 a4 (fun y14=>k .ret ⟨[(12,.ptr 0 0),(13,vI y14.1)],[.box [vZ aD a2,vI a3,.own 1] false,.lst true aY y14.2 false]⟩)⟩
def aBv:Ent:=⟨[2,3,6,7,12,15,16,17,18,19,21,23,132,133],[sI,sI,sPt 0,sPt 1,sPt 2,sI,sI,sI,sI,sPt 3,sPt 4,sI,sI,sI],[bT,bT,dG,.box [lI,lI,lI,lI,lI,lI,lI] false,.box [lZ aD,lI,.cst (.own 5)] false,oQc],fun⟨⟨a,b,_,_,_,c,d,e,f,_,_,g,i,j,_⟩,⟨⟨_,_,n,_⟩,⟨_,_,q,_⟩,⟨_,t,_⟩,⟨u,w,z,a0,a1,a2,a3,_⟩,⟨a4,a5,_⟩,a6,_⟩⟩ k=>HU a b c d e f g i n q u w z a0 a1 a2 a3 (fun y15=>k (.exit 0) ⟨[(12,.ptr 0 0),(21,.ptr 1 0)],[.box [aK,vI t,aK] false,.box [vZ aD a4,vI a5,.own 2] false,.lst true aY y15 false]⟩) (j,a6)⟩
def aBh:Ent:=⟨[2,3,6,7,12,15,16,17,18,19,21,23,24,25,132,133,144,145],[sI,sI,sPt 0,sPt 1,sPt 2,sI,sI,sI,sI,sPt 3,sPt 4,sI,sI,sC (.own 5),sI,sI,sI,sI],[bT,bT,dG,.box [lI,lI,lI,lI,lI,lI,lI] false,.box [lZ aD,lI,.cst (.own 6)] false,.lst true bN false,oQc],fun⟨⟨a,b,_,_,_,c,d,e,f,_,_,g,i,_,j,l,m,n,_⟩,⟨⟨o,p,q,_⟩,⟨t,u,w,_⟩,⟨_,z,_⟩,⟨a0,a1,a2,a3,a4,a5,a6,_⟩,⟨a7,a8,_⟩,a9,b0,_⟩⟩ k=>GW a b d e f g i m q w a9 (fun y16=>k (.exit 2) ⟨[(2,vI a),(3,vI b),(6,.ptr 0 0),(7,.ptr 1 0),(12,.ptr 2 0),(15,vI c),(16,vI d),(17,vI e),(18,vI f),(19,.ptr 3 0),(21,.ptr 4 0),(23,vI g),(132,vI j),(133,vI l)],[.box [vZ aD o,vI p,vZ aL q] false,.box [vZ aD t,vI u,vZ aL w] false,.box [aK,vI z,aK] false,.box [vI a0,vI a1,vI a2,vI a3,vI a4,vI a5,vI a6] false,.box [vZ aD a7,vI a8,.own 5] false,.lst true aY y16 false]⟩) (n,b0)⟩
def aBy:Ent:=⟨[2,3,6,7,12,15,16,17,18,19,21,23,24,25,26,132,133,144,145,148,149],[sI,sI,sPt 0,sPt 1,sPt 2,sI,sI,sI,sI,sPt 3,sPt 4,sI,sI,sC (.own 5),sI,sI,sI,sI,sI,sI,sI],[bT,bT,dG,.box [lI,lI,lI,lI,lI,lI,lI] false,.box [lZ aD,lI,.cst (.own 6)] false,.lst true bN false,oQc],fun⟨⟨a,b,_,_,_,c,d,e,f,_,_,g,i,_,j,l,m,n,o,p,q,_⟩,⟨⟨t,u,w,_⟩,⟨z,a0,a1,_⟩,⟨_,a2,_⟩,⟨a3,a4,a5,a6,a7,a8,a9,_⟩,⟨b0,b1,_⟩,b2,b3,_⟩⟩ k=>HO a b d e f g i j p w a1 b2 (fun y17=>k (.exit 4) ⟨[(2,vI a),(3,vI b),(6,.ptr 0 0),(7,.ptr 1 0),(12,.ptr 2 0),(15,vI c),(16,vI d),(17,vI e),(18,vI f),(19,.ptr 3 0),(21,.ptr 4 0),(23,vI g),(24,vI i),(25,.own 5),(132,vI l),(133,vI m),(144,vI n),(145,vI o)],[.box [vZ aD t,vI u,vZ aL w] false,.box [vZ aD z,vI a0,vZ aL a1] false,.box [aK,vI a2,aK] false,.box [vI a3,vI a4,vI a5,vI a6,vI a7,vI a8,vI a9] false,.box [vZ aD b0,vI b1,.own 6] false,.lst true bN b2 false,.lst true aY y17 false]⟩) (q,b3)⟩
def aCE:Ent:=⟨[2,3,6,7,12,15,16,17,18,19,21,23,24,25,26,27,28,132,133,144,145,148,149,152,153],[sI,sI,sPt 0,sPt 1,sPt 2,sI,sI,sI,sI,sPt 3,sPt 4,sI,sI,sC (.own 5),sI,sI,sI,sI,sI,sI,sI,sI,sI,sI,sI],[bT,bT,dG,.box [lI,lI,lI,lI,lI,lI,lI] false,.box [lZ aD,lI,.cst (.own 6)] false,.lst true bN false,oQc],fun⟨⟨a,b,_,_,_,c,d,e,f,_,_,g,i,_,j,l,m,n,o,p,q,t,u,w,z,_⟩,⟨⟨a0,a1,a2,_⟩,⟨a3,a4,a5,_⟩,⟨_,a6,_⟩,⟨a7,a8,a9,b0,b1,b2,b3,_⟩,⟨b4,b5,_⟩,b6,b7,_⟩⟩ k=>HI d e f g j l w a2 a5 b6 (fun y18=>k (.exit 6) ⟨[(2,vI a),(3,vI b),(6,.ptr 0 0),(7,.ptr 1 0),(12,.ptr 2 0),(15,vI c),(16,vI d),(17,vI e),(18,vI f),(19,.ptr 3 0),(21,.ptr 4 0),(23,vI g),(24,vI i),(25,.own 5),(26,vI j),(27,vI l),(28,vI y18),(132,vI n),(133,vI o),(144,vI p),(145,vI q),(148,vI t),(149,vI u)],[.box [vZ aD a0,vI a1,vZ aL a2] false,.box [vZ aD a3,vI a4,vZ aL a5] false,.box [aK,vI a6,aK] false,.box [vI a7,vI a8,vI a9,vI b0,vI b1,vI b2,vI b3] false,.box [vZ aD b4,vI b5,.own 6] false,.lst true bN b6 false,.lst true aY b7 false]⟩) (m,z)⟩
def aBp:Ent:=⟨[2,3,6,7,12,15,16,17,18,19,21,23,24,25,26,27,28,29,132,133,144,145,148,149,152,153,156,157,158],[sI,sI,sPt 0,sPt 1,sPt 2,sI,sI,sI,sI,sPt 3,sPt 4,sI,sI,sC (.own 5),sI,sI,sI,sI,sI,sI,sI,sI,sI,sI,sI,sI,sC (.own 5),sI,sI],[bT,bT,dG,.box [lI,lI,lI,lI,lI,lI,lI] false,.box [lZ aD,lI,.cst (.own 6)] false,.lst true bN false,oQc],fun⟨⟨a,b,_,_,_,c,d,e,f,_,_,g,i,_,j,l,m,n,o,p,q,t,u,w,z,a0,_,a1,a2,_⟩,⟨⟨a3,a4,a5,_⟩,⟨a6,a7,a8,_⟩,⟨_,a9,_⟩,⟨b0,b1,b2,b3,b4,b5,b6,_⟩,⟨b7,b8,_⟩,b9,c0,_⟩⟩ k=>GN d e f g j l n a1 a5 a8 b9 (fun y19=>k (.exit 8) ⟨[(2,vI a),(3,vI b),(6,.ptr 0 0),(7,.ptr 1 0),(12,.ptr 2 0),(15,vI c),(16,vI d),(17,vI e),(18,vI f),(19,.ptr 3 0),(21,.ptr 4 0),(23,vI g),(24,vI i),(25,.own 5),(26,vI j),(27,vI l),(28,vI y19),(132,vI o),(133,vI p),(144,vI q),(145,vI t),(148,vI u),(149,vI w),(152,vI z),(153,vI a0)],[.box [vZ aD a3,vI a4,vZ aL a5] false,.box [vZ aD a6,vI a7,vZ aL a8] false,.box [aK,vI a9,aK] false,.box [vI b0,vI b1,vI b2,vI b3,vI b4,vI b5,vI b6] false,.box [vZ aD b7,vI b8,.own 6] false,.lst true bN b9 false,.lst true aY c0 false]⟩) (m,a2)⟩
def aDo:=L9.put tt 138 Tryz.func138 [12,13] [] [(127,aBa),(4090,aBv),(2094286,aBh),(536137318,aBy),(549004614042,aCE),(140545181194854,aBp)] [.agg cR,.agg cR,sI,sI,sI,sI] [(.p .f .n)] [(true,tI),(false,aD)] (fun x=>R3 (x.1.1,(x.1.2.1,x.1.2.2.1)) (x.2.1.1,(x.2.1.2.1,x.2.1.2.2.1)) x.2.2.1 x.2.2.2.1 x.2.2.2.2.1 x.2.2.2.2.2.1) ⟨fun _ _ hs ⟨⟨_,_,_,_,_,_,_,_,_,_,_,_,_⟩,⟨⟨_,_,_,_⟩,⟨_,_,_,_⟩,_,⟨_,_,_,_,_,_,_,_⟩,⟨_,_,_⟩,_,_⟩⟩ _ h=>aN hs h.it,fun _ _ hs ⟨⟨a,b,_,_,_,c,d,e,f,_,_,g,i,j,_⟩,⟨⟨l,m,n,_⟩,⟨o,p,q,_⟩,⟨_,t,_⟩,⟨u,w,z,a0,a1,a2,a3,_⟩,⟨a4,a5,_⟩,a6,_⟩⟩ _ h=>aH hs (fun y=>⟨⟨a,b,(),(),(),c,d,e,f,(),(),g,i,y.1,()⟩,⟨⟨l,m,n,()⟩,⟨o,p,q,()⟩,⟨(),t,(),()⟩,⟨u,w,z,a0,a1,a2,a3,()⟩,⟨a4,a5,(),()⟩,y.2,()⟩⟩) (j,a6) h.it,fun _ _ hs ⟨⟨a,b,_,_,_,c,d,e,f,_,_,g,i,_,j,l,m,n,_⟩,⟨⟨o,p,q,_⟩,⟨t,u,w,_⟩,⟨_,z,_⟩,⟨a0,a1,a2,a3,a4,a5,a6,_⟩,⟨a7,a8,_⟩,a9,b0,_⟩⟩ _ h=>aH hs (fun y=>⟨⟨a,b,(),(),(),c,d,e,f,(),(),g,i,(),j,l,m,y.1,()⟩,⟨⟨o,p,q,()⟩,⟨t,u,w,()⟩,⟨(),z,(),()⟩,⟨a0,a1,a2,a3,a4,a5,a6,()⟩,⟨a7,a8,(),()⟩,a9,y.2,()⟩⟩) (n,b0) h.it,fun _ _ hs ⟨⟨a,b,_,_,_,c,d,e,f,_,_,g,i,_,j,l,m,n,o,p,q,_⟩,⟨⟨t,u,w,_⟩,⟨z,a0,a1,_⟩,⟨_,a2,_⟩,⟨a3,a4,a5,a6,a7,a8,a9,_⟩,⟨b0,b1,_⟩,b2,b3,_⟩⟩ _ h=>aH hs (fun y=>⟨⟨a,b,(),(),(),c,d,e,f,(),(),g,i,(),j,l,m,n,o,p,y.1,()⟩,⟨⟨t,u,w,()⟩,⟨z,a0,a1,()⟩,⟨(),a2,(),()⟩,⟨a3,a4,a5,a6,a7,a8,a9,()⟩,⟨b0,b1,(),()⟩,b2,y.2,()⟩⟩) (q,b3) h.it,fun _ _ hs ⟨⟨a,b,_,_,_,c,d,e,f,_,_,g,i,_,j,l,m,n,o,p,q,t,u,w,z,_⟩,⟨⟨a0,a1,a2,_⟩,⟨a3,a4,a5,_⟩,⟨_,a6,_⟩,⟨a7,a8,a9,b0,b1,b2,b3,_⟩,⟨b4,b5,_⟩,b6,b7,_⟩⟩ _ h=>aH hs (fun y=>⟨⟨a,b,(),(),(),c,d,e,f,(),(),g,i,(),j,l,y.1,n,o,p,q,t,u,w,y.2,()⟩,⟨⟨a0,a1,a2,()⟩,⟨a3,a4,a5,()⟩,⟨(),a6,(),()⟩,⟨a7,a8,a9,b0,b1,b2,b3,()⟩,⟨b4,b5,(),()⟩,b6,b7,()⟩⟩) (m,z) h.it,fun _ _ hs ⟨⟨a,b,_,_,_,c,d,e,f,_,_,g,i,_,j,l,m,n,o,p,q,t,u,w,z,a0,_,a1,a2,_⟩,⟨⟨a3,a4,a5,_⟩,⟨a6,a7,a8,_⟩,⟨_,a9,_⟩,⟨b0,b1,b2,b3,b4,b5,b6,_⟩,⟨b7,b8,_⟩,b9,c0,_⟩⟩ _ h=>aH hs (fun y=>⟨⟨a,b,(),(),(),c,d,e,f,(),(),g,i,(),j,l,y.1,n,o,p,q,t,u,w,z,a0,(),a1,y.2,()⟩,⟨⟨a3,a4,a5,()⟩,⟨a6,a7,a8,()⟩,⟨(),a9,(),()⟩,⟨b0,b1,b2,b3,b4,b5,b6,()⟩,⟨b7,b8,(),()⟩,b9,c0,()⟩⟩) (m,a2) h.it,trivial⟩ fun _ _ h=>⟨_,h.it,by kernel_rfl⟩
def uE (x0 x2 x3 x4 x5 x6 x7 x16:Int)(x20 x23:List Int)(x30 x31 x34 x35 x36:Int)(K0:(List Int)->Prop)(s:Int×List Int)(nx:(Int×List Int)->Prop):Prop :=
 if (decide (s.1<x16))=true then ck (aF (i64.wrap ((i64.wrap ((i64.wrap ((i64.wrap ((i64.wrap ((i64.wrap (x7*x3))+s.1))*x0))+x35))*x0))+x36)) s.2.length) (ck (aF (i64.wrap ((i64.wrap ((i64.wrap ((i64.wrap ((i64.wrap (x6*x2))+x7))*x30))*x31))+x5)) x20.length) (ck (aF (i64.wrap ((i64.wrap ((i64.wrap ((i64.wrap (x6*x3))+s.1))*x4))+x34)) x23.length) (ck (aF (i64.wrap ((i64.wrap ((i64.wrap ((i64.wrap ((i64.wrap ((i64.wrap (x7*x3))+s.1))*x0))+x35))*x0))+x36)) s.2.length) (nx (i64.wrap (s.1+1),s.2.set ((i64.wrap ((i64.wrap ((i64.wrap ((i64.wrap ((i64.wrap ((i64.wrap (x7*x3))+s.1))*x0))+x35))*x0))+x36)).toNat) (i32.wrap ((s.2.getD ((i64.wrap ((i64.wrap ((i64.wrap ((i64.wrap ((i64.wrap ((i64.wrap (x7*x3))+s.1))*x0))+x35))*x0))+x36)).toNat) 0)+(i32.wrap ((i32.wrap (x20.getD ((i64.wrap ((i64.wrap ((i64.wrap ((i64.wrap ((i64.wrap (x6*x2))+x7))*x30))*x31))+x5)).toNat) 0))*(i32.wrap (x23.getD ((i64.wrap ((i64.wrap ((i64.wrap ((i64.wrap (x6*x3))+s.1))*x4))+x34)).toNat) 0)))))))))))else K0 s.2
structure EF (x0 x2 x3 x4 x5 x6 x7 x16:Int)(x20 x23:List Int)(x30 x31 x34 x35 x36:Int)(K0:(List Int)->Prop)(s:Int×List Int):Prop where
 it:Go.Mach.Loop (uE x0 x2 x3 x4 x5 x6 x7 x16 x20 x23 x30 x31 x34 x35 x36 K0) s
def uK (x0 x2 x3 x4 x5 x6 x13:Int)(x17 x20:List Int)(x27 x28 x31 x32 x33:Int)(K0:(List Int)->Prop)(s:Int×List Int)(nx:(Int×List Int)->Prop):Prop :=
 if (decide (s.1<x13))=true then EF x0 x2 x3 x4 x5 x6 s.1 x3 x17 x20 x27 x28 x31 x32 x33 (fun y11=>nx (i64.wrap (s.1+1),y11)) (0,s.2)else K0 s.2
structure EG (x0 x2 x3 x4 x5 x6 x13:Int)(x17 x20:List Int)(x27 x28 x31 x32 x33:Int)(K0:(List Int)->Prop)(s:Int×List Int):Prop where
 it:Go.Mach.Loop (uK x0 x2 x3 x4 x5 x6 x13 x17 x20 x27 x28 x31 x32 x33 K0) s
def uF (x0 x2 x3 x4 x5 x10:Int)(x14 x17:List Int)(x24 x25 x28 x29 x30:Int)(K0:(List Int)->Prop)(s:Int×List Int)(nx:(Int×List Int)->Prop):Prop :=
 if (decide (s.1<x10))=true then EG x0 x2 x3 x4 x5 s.1 x2 x14 x17 x24 x25 x28 x29 x30 (fun y11=>nx (i64.wrap (s.1+1),y11)) (0,s.2)else K0 s.2
structure E7 (x0 x2 x3 x4 x5 x10:Int)(x14 x17:List Int)(x24 x25 x28 x29 x30:Int)(K0:(List Int)->Prop)(s:Int×List Int):Prop where
 it:Go.Mach.Loop (uF x0 x2 x3 x4 x5 x10 x14 x17 x24 x25 x28 x29 x30 K0) s
def uC (x0 x1 x2 x3 x4 x5 x8:Int)(x12 x15:List Int)(x22 x23:Int)(x26:List bG)(K0:(List Int)->Prop)(s:Int×List Int)(nx:(Int×List Int)->Prop):Prop :=
 if (decide (s.1<x8))=true then ck (aF s.1 x26.length) (E7 x0 x2 x3 x4 x5 x1 x12 x15 x22 x23 ((x26.getD ((s.1).toNat) (0,(0,0))).1) (((x26.getD ((s.1).toNat) (0,(0,0))).2).1) (((x26.getD ((s.1).toNat) (0,(0,0))).2).2) (fun y11=>nx (i64.wrap (s.1+1),y11)) (0,s.2))else K0 s.2
structure EC (x0 x1 x2 x3 x4 x5 x8:Int)(x12 x15:List Int)(x22 x23:Int)(x26:List bG)(K0:(List Int)->Prop)(s:Int×List Int):Prop where
 it:Go.Mach.Loop (uC x0 x1 x2 x3 x4 x5 x8 x12 x15 x22 x23 x26 K0) s
def uI (x0 x1 x2 x3 x4 x5:Int)(x9 x12:List Int)(x14 x15 x16 x17 x18 x19 x20:Int)(K0:(List Int)->Prop)(s:Int×List Int)(nx:(Int×List Int)->Prop):Prop :=
 if (decide (s.1<x5))=true then ck (x20≠(0:Int)) (ck (x20≠(0:Int)) (MX (x14,(x15,(x16,(x17,(x18,(x19,x20)))))) (i64.wrap ((s.1).tdiv x20)) ((s.1).tmod x20) (fun r10=>EC x0 x1 x2 x3 x4 s.1 (r10.length:Int) x9 x12 x19 x20 r10 (fun y11=>nx (i64.wrap (s.1+1),y11)) (0,s.2))))else K0 s.2
structure EK (x0 x1 x2 x3 x4 x5:Int)(x9 x12:List Int)(x14 x15 x16 x17 x18 x19 x20:Int)(K0:(List Int)->Prop)(s:Int×List Int):Prop where
 it:Go.Mach.Loop (uI x0 x1 x2 x3 x4 x5 x9 x12 x14 x15 x16 x17 x18 x19 x20 K0) s
structure PW (x0 x1 x2 x3 x4:Int)(x7 x10:List Int)(x12 x13 x14 x15 x16 x17 x18:Int)(x21:List Int)(K0:(Int×List Int)->Prop):Prop where
 it:if (x4 != 0)=true then K0 (x4,x21)else EK x0 x1 x2 x3 (i64.wrap (x12*x13)) (i64.wrap (x17*x18)) x7 x10 x12 x13 x14 x15 x16 x17 x18 (fun y10=>K0 (0,y10)) (0,x21)
structure OE (a0 a1:aZ)(a2 a3 a4:Int)(Q:(oV×Int)->Prop):Prop where
 it:PA [a0,a1] (fun r1=>if (r1 != 0)=true then Q ((([]:List Int),(0,([]:List Int))),r1)else ck (aF 0 a0.1.length) (ck (aF 1 a0.1.length) (ck (aF 1 a1.1.length) (ck (aF 2 a1.1.length) (ck (aF 3 a1.1.length) (QF (a1.1.getD 2 0) (a1.1.getD 3 0) a2 a3 a4 (fun r2=>jn (fun v3=>jn (fun v5=>jn (fun v7=>if v7=true then Q ((([]:List Int),(0,([]:List Int))),2)else EQ (i64.wrap ((i64.wrap ((a0.1.getD 0 0)*r2.1.2.2.2.2.2.1))*r2.1.2.2.2.2.2.2)) (i64.wrap (a0.2.1+a1.2.1)) [a0.1.getD 1 0,a1.1.getD 1 0,a2,a2] (fun r9=>PW a2 (a0.1.getD 0 0) (a0.1.getD 1 0) (a1.1.getD 1 0) r9.2 a0.2.2 a1.2.2 r2.1.1 r2.1.2.1 r2.1.2.2.1 r2.1.2.2.2.1 r2.1.2.2.2.2.1 r2.1.2.2.2.2.2.1 r2.1.2.2.2.2.2.2 r9.1.2.2 (fun y11=>Q ((r9.1.1,(r9.1.2.1,y11.2)),y11.1)))) (fun J8=>if v5=true then J8 true else ck (aF 3 a0.1.length) (J8 ((a0.1.getD 3 0) != r2.1.2.2.2.2.2.2)))) (fun J6=>if v3=true then J6 true else ck (aF 2 a0.1.length) (J6 ((a0.1.getD 2 0) != r2.1.2.2.2.2.2.1)))) (fun J4=>if (!r2.2)=true then J4 true else ck (aF 0 a1.1.length) (J4 ((a1.1.getD 0 0) != (a0.1.getD 0 0)))))))))))
def ZY:Ent:=⟨[2,5,6,10,13,14,15,16,18,19],[sI,sPt 0,sPt 1,sPt 2,sI,sI,sI,sPt 3,sPt 4,sI],[bT,bT,dG,.box [lI,lI,lI,lI,lI,lI,lI] false,.box [lZ aD,lI,.cst (.own 5)] false,oQc],fun⟨⟨a,_,_,_,b,c,d,_,_,e,_⟩,⟨⟨_,_,i,_⟩,⟨_,_,m,_⟩,_,⟨o,p,q,t,u,w,z,_⟩,⟨a0,a1,_⟩,a2,_⟩⟩ k=>PW a b c d e i m o p q t u w z a2 (fun y12=>k .ret ⟨[(10,.ptr 0 0),(11,vI y12.1)],[.box [vZ aD a0,vI a1,.own 1] false,.lst true aY y12.2 false]⟩)⟩
def ZT:Ent:=⟨[2,5,6,10,13,14,15,16,18,20,125,126],[sI,sPt 0,sPt 1,sPt 2,sI,sI,sI,sPt 3,sPt 4,sI,sI,sI],[bT,bT,dG,.box [lI,lI,lI,lI,lI,lI,lI] false,.box [lZ aD,lI,.cst (.own 5)] false,oQc],fun⟨⟨a,_,_,_,b,c,d,_,_,e,f,g,_⟩,⟨⟨_,_,l,_⟩,⟨_,_,o,_⟩,⟨_,p,_⟩,⟨q,t,u,w,z,a0,a1,_⟩,⟨a2,a3,_⟩,a4,_⟩⟩ k=>EK a b c d e f l o q t u w z a0 a1 (fun y13=>k (.exit 0) ⟨[(10,.ptr 0 0),(18,.ptr 1 0)],[.box [aK,vI p,aK] false,.box [vZ aD a2,vI a3,.own 2] false,.lst true aY y13 false]⟩) (g,a4)⟩
def aBN:Ent:=⟨[2,5,6,10,13,14,15,16,18,20,21,125,126,138,139,140],[sI,sPt 0,sPt 1,sPt 2,sI,sI,sI,sPt 3,sPt 4,sI,sI,sI,sI,sC (.own 5),sI,sI],[bT,bT,dG,.box [lI,lI,lI,lI,lI,lI,lI] false,.box [lZ aD,lI,.cst (.own 6)] false,.lst true bN false,oQc],fun⟨⟨a,_,_,_,b,c,d,_,_,e,f,g,i,_,j,l,_⟩,⟨⟨m,n,o,_⟩,⟨p,q,t,_⟩,⟨_,u,_⟩,⟨w,z,a0,a1,a2,a3,a4,_⟩,⟨a5,a6,_⟩,a7,a8,_⟩⟩ k=>EC a b c d e f j o t a3 a4 a7 (fun y14=>k (.exit 2) ⟨[(2,vI a),(5,.ptr 0 0),(6,.ptr 1 0),(10,.ptr 2 0),(13,vI b),(14,vI c),(15,vI d),(16,.ptr 3 0),(18,.ptr 4 0),(20,vI e),(125,vI g),(126,vI i)],[.box [vZ aD m,vI n,vZ aL o] false,.box [vZ aD p,vI q,vZ aL t] false,.box [aK,vI u,aK] false,.box [vI w,vI z,vI a0,vI a1,vI a2,vI a3,vI a4] false,.box [vZ aD a5,vI a6,.own 5] false,.lst true aY y14 false]⟩) (l,a8)⟩
def ZR:Ent:=⟨[2,5,6,10,13,14,15,16,18,20,21,23,125,126,138,139,140,144,145],[sI,sPt 0,sPt 1,sPt 2,sI,sI,sI,sPt 3,sPt 4,sI,sI,sPt 5,sI,sI,sC (.own 6),sI,sI,sI,sI],[bT,bT,dG,.box [lI,lI,lI,lI,lI,lI,lI] false,.box [lZ aD,lI,.cst (.own 7)] false,.box [lI,lI,lI] false,.lst true bN false,oQc],fun⟨⟨a,_,_,_,b,c,d,_,_,e,f,_,g,i,_,j,l,m,n,_⟩,⟨⟨o,p,q,_⟩,⟨t,u,w,_⟩,⟨_,z,_⟩,⟨a0,a1,a2,a3,a4,a5,a6,_⟩,⟨a7,a8,_⟩,⟨a9,b0,b1,_⟩,b2,b3,_⟩⟩ k=>E7 a c d e f m q w a5 a6 a9 b0 b1 (fun y15=>k (.exit 4) ⟨[(2,vI a),(5,.ptr 0 0),(6,.ptr 1 0),(10,.ptr 2 0),(13,vI b),(14,vI c),(15,vI d),(16,.ptr 3 0),(18,.ptr 4 0),(20,vI e),(21,vI f),(125,vI g),(126,vI i),(138,.own 5),(139,vI j),(140,vI l)],[.box [vZ aD o,vI p,vZ aL q] false,.box [vZ aD t,vI u,vZ aL w] false,.box [aK,vI z,aK] false,.box [vI a0,vI a1,vI a2,vI a3,vI a4,vI a5,vI a6] false,.box [vZ aD a7,vI a8,.own 6] false,.lst true bN b2 false,.lst true aY y15 false]⟩) (n,b3)⟩
def aA3:Ent:=⟨[2,5,6,10,13,14,15,16,18,20,21,23,24,125,126,138,139,140,144,145,148,149],[sI,sPt 0,sPt 1,sPt 2,sI,sI,sI,sPt 3,sPt 4,sI,sI,sPt 5,sI,sI,sI,sC (.own 6),sI,sI,sI,sI,sI,sI],[bT,bT,dG,.box [lI,lI,lI,lI,lI,lI,lI] false,.box [lZ aD,lI,.cst (.own 7)] false,.box [lI,lI,lI] false,.lst true bN false,oQc],fun⟨⟨a,_,_,_,b,c,d,_,_,e,f,_,g,i,j,_,l,m,n,o,p,q,_⟩,⟨⟨t,u,w,_⟩,⟨z,a0,a1,_⟩,⟨_,a2,_⟩,⟨a3,a4,a5,a6,a7,a8,a9,_⟩,⟨b0,b1,_⟩,⟨b2,b3,b4,_⟩,b5,b6,_⟩⟩ k=>EG a c d e f g p w a1 a8 a9 b2 b3 b4 (fun y16=>k (.exit 6) ⟨[(2,vI a),(5,.ptr 0 0),(6,.ptr 1 0),(10,.ptr 2 0),(13,vI b),(14,vI c),(15,vI d),(16,.ptr 3 0),(18,.ptr 4 0),(20,vI e),(21,vI f),(23,.ptr 5 0),(125,vI i),(126,vI j),(138,.own 6),(139,vI l),(140,vI m),(144,vI n),(145,vI o)],[.box [vZ aD t,vI u,vZ aL w] false,.box [vZ aD z,vI a0,vZ aL a1] false,.box [aK,vI a2,aK] false,.box [vI a3,vI a4,vI a5,vI a6,vI a7,vI a8,vI a9] false,.box [vZ aD b0,vI b1,.own 7] false,.box [vI b2,vI b3,vI b4] false,.lst true bN b5 false,.lst true aY y16 false]⟩) (q,b6)⟩
def ZN:Ent:=⟨[2,5,6,10,13,14,15,16,18,20,21,23,24,25,125,126,138,139,140,144,145,148,149,152,153],[sI,sPt 0,sPt 1,sPt 2,sI,sI,sI,sPt 3,sPt 4,sI,sI,sPt 5,sI,sI,sI,sI,sC (.own 6),sI,sI,sI,sI,sI,sI,sI,sI],[bT,bT,dG,.box [lI,lI,lI,lI,lI,lI,lI] false,.box [lZ aD,lI,.cst (.own 7)] false,.box [lI,lI,lI] false,.lst true bN false,oQc],fun⟨⟨a,_,_,_,b,c,d,_,_,e,f,_,g,i,j,l,_,m,n,o,p,q,t,u,w,_⟩,⟨⟨z,a0,a1,_⟩,⟨a2,a3,a4,_⟩,⟨_,a5,_⟩,⟨a6,a7,a8,a9,b0,b1,b2,_⟩,⟨b3,b4,_⟩,⟨b5,b6,b7,_⟩,b8,b9,_⟩⟩ k=>EF a c d e f g i u a1 a4 b1 b2 b5 b6 b7 (fun y17=>k (.exit 8) ⟨[(2,vI a),(5,.ptr 0 0),(6,.ptr 1 0),(10,.ptr 2 0),(13,vI b),(14,vI c),(15,vI d),(16,.ptr 3 0),(18,.ptr 4 0),(20,vI e),(21,vI f),(23,.ptr 5 0),(24,vI g),(125,vI j),(126,vI l),(138,.own 6),(139,vI m),(140,vI n),(144,vI o),(145,vI p),(148,vI q),(149,vI t)],[.box [vZ aD z,vI a0,vZ aL a1] false,.box [vZ aD a2,vI a3,vZ aL a4] false,.box [aK,vI a5,aK] false,.box [vI a6,vI a7,vI a8,vI a9,vI b0,vI b1,vI b2] false,.box [vZ aD b3,vI b4,.own 7] false,.box [vI b5,vI b6,vI b7] false,.lst true bN b8 false,.lst true aY y17 false]⟩) (w,b9)⟩
def aCI:=aDo.put tt 134 Tryz.func134 [10,11] [] [(127,ZY),(4090,ZT),(1047142,aBN),(268068454,ZR),(68625524326,aA3),(17568134227558,ZN)] [.agg cR,.agg cR,sI,sI,sI] [(.p .f .n)] [(true,tI),(false,aD)] (fun x=>OE (x.1.1,(x.1.2.1,x.1.2.2.1)) (x.2.1.1,(x.2.1.2.1,x.2.1.2.2.1)) x.2.2.1 x.2.2.2.1 x.2.2.2.2.1) ⟨fun _ _ hs ⟨⟨_,_,_,_,_,_,_,_,_,_,_⟩,⟨⟨_,_,_,_⟩,⟨_,_,_,_⟩,_,⟨_,_,_,_,_,_,_,_⟩,⟨_,_,_⟩,_,_⟩⟩ _ h=>aN hs h.it,fun _ _ hs ⟨⟨a,_,_,_,b,c,d,_,_,e,f,g,_⟩,⟨⟨i,j,l,_⟩,⟨m,n,o,_⟩,⟨_,p,_⟩,⟨q,t,u,w,z,a0,a1,_⟩,⟨a2,a3,_⟩,a4,_⟩⟩ _ h=>aH hs (fun y=>⟨⟨a,(),(),(),b,c,d,(),(),e,f,y.1,()⟩,⟨⟨i,j,l,()⟩,⟨m,n,o,()⟩,⟨(),p,(),()⟩,⟨q,t,u,w,z,a0,a1,()⟩,⟨a2,a3,(),()⟩,y.2,()⟩⟩) (g,a4) h.it,fun _ _ hs ⟨⟨a,_,_,_,b,c,d,_,_,e,f,g,i,_,j,l,_⟩,⟨⟨m,n,o,_⟩,⟨p,q,t,_⟩,⟨_,u,_⟩,⟨w,z,a0,a1,a2,a3,a4,_⟩,⟨a5,a6,_⟩,a7,a8,_⟩⟩ _ h=>aH hs (fun y=>⟨⟨a,(),(),(),b,c,d,(),(),e,f,g,i,(),j,y.1,()⟩,⟨⟨m,n,o,()⟩,⟨p,q,t,()⟩,⟨(),u,(),()⟩,⟨w,z,a0,a1,a2,a3,a4,()⟩,⟨a5,a6,(),()⟩,a7,y.2,()⟩⟩) (l,a8) h.it,fun _ _ hs ⟨⟨a,_,_,_,b,c,d,_,_,e,f,_,g,i,_,j,l,m,n,_⟩,⟨⟨o,p,q,_⟩,⟨t,u,w,_⟩,⟨_,z,_⟩,⟨a0,a1,a2,a3,a4,a5,a6,_⟩,⟨a7,a8,_⟩,⟨a9,b0,b1,_⟩,b2,b3,_⟩⟩ _ h=>aH hs (fun y=>⟨⟨a,(),(),(),b,c,d,(),(),e,f,(),g,i,(),j,l,m,y.1,()⟩,⟨⟨o,p,q,()⟩,⟨t,u,w,()⟩,⟨(),z,(),()⟩,⟨a0,a1,a2,a3,a4,a5,a6,()⟩,⟨a7,a8,(),()⟩,⟨a9,b0,b1,()⟩,b2,y.2,()⟩⟩) (n,b3) h.it,fun _ _ hs ⟨⟨a,_,_,_,b,c,d,_,_,e,f,_,g,i,j,_,l,m,n,o,p,q,_⟩,⟨⟨t,u,w,_⟩,⟨z,a0,a1,_⟩,⟨_,a2,_⟩,⟨a3,a4,a5,a6,a7,a8,a9,_⟩,⟨b0,b1,_⟩,⟨b2,b3,b4,_⟩,b5,b6,_⟩⟩ _ h=>aH hs (fun y=>⟨⟨a,(),(),(),b,c,d,(),(),e,f,(),g,i,j,(),l,m,n,o,p,y.1,()⟩,⟨⟨t,u,w,()⟩,⟨z,a0,a1,()⟩,⟨(),a2,(),()⟩,⟨a3,a4,a5,a6,a7,a8,a9,()⟩,⟨b0,b1,(),()⟩,⟨b2,b3,b4,()⟩,b5,y.2,()⟩⟩) (q,b6) h.it,fun _ _ hs ⟨⟨a,_,_,_,b,c,d,_,_,e,f,_,g,i,j,l,_,m,n,o,p,q,t,u,w,_⟩,⟨⟨z,a0,a1,_⟩,⟨a2,a3,a4,_⟩,⟨_,a5,_⟩,⟨a6,a7,a8,a9,b0,b1,b2,_⟩,⟨b3,b4,_⟩,⟨b5,b6,b7,_⟩,b8,b9,_⟩⟩ _ h=>aH hs (fun y=>⟨⟨a,(),(),(),b,c,d,(),(),e,f,(),g,i,j,l,(),m,n,o,p,q,t,u,y.1,()⟩,⟨⟨z,a0,a1,()⟩,⟨a2,a3,a4,()⟩,⟨(),a5,(),()⟩,⟨a6,a7,a8,a9,b0,b1,b2,()⟩,⟨b3,b4,(),()⟩,⟨b5,b6,b7,()⟩,b8,y.2,()⟩⟩) (w,b9) h.it,trivial⟩ fun _ _ h=>⟨_,h.it,by kernel_rfl⟩
def yN (x0 x1:Int)(x2:List Int)(x3:Int)(K0:(List Int)->Prop)(s:Int×List Int)(nx:(Int×List Int)->Prop):Prop :=
 if (decide (s.1<x3))=true then ck (aF s.1 x2.length) (ck (x1≠(0:Int)) (ck (x0≠(0:Int)) (ck (aF ((i64.wrap ((s.1).tdiv x1)).tmod x0) s.2.length) (ck (aF ((i64.wrap ((s.1).tdiv x1)).tmod x0) s.2.length) (nx (i64.wrap (s.1+1),s.2.set (((i64.wrap ((s.1).tdiv x1)).tmod x0).toNat) (i32.wrap ((s.2.getD (((i64.wrap ((s.1).tdiv x1)).tmod x0).toNat) 0)+(i32.wrap (x2.getD ((s.1).toNat) 0))))))))))else K0 s.2
structure LP (x0 x1:Int)(x2:List Int)(x3:Int)(K0:(List Int)->Prop)(s:Int×List Int):Prop where
 it:Go.Mach.Loop (yN x0 x1 x2 x3 K0) s
structure VB (a0:aZ)(Q:(oV×Int)->Prop):Prop where
 it:PA [a0] (fun r1=>if (r1 != 0)=true then Q ((([]:List Int),(0,([]:List Int))),r1)else ck (aF 0 a0.1.length) (ck (aF 1 a0.1.length) (ck (aF 2 a0.1.length) (ck (aF 3 a0.1.length) (EQ (i64.wrap ((a0.1.getD 0 0)*(i64.wrap ((a0.1.getD 2 0)*(a0.1.getD 3 0))))) a0.2.1 [a0.1.getD 1 0] (fun r2=>if (r2.2 != 0)=true then Q (r2.1,r2.2)else LP (a0.1.getD 1 0) (i64.wrap ((a0.1.getD 2 0)*(a0.1.getD 3 0))) a0.2.2 (a0.2.2.length:Int) (fun y3=>Q ((r2.1.1,(r2.1.2.1,y3)),0)) (0,r2.1.2.2)))))))
def aD1:Ent:=⟨[2,6,7,8,52,53,54],[sPt 0,sI,sI,sPt 1,sZ aL,sI,sI],[dG,.box [lZ aD,lI,.cst (.own 2)] false,oQc],fun⟨⟨_,a,b,_,c,d,e,_⟩,⟨⟨_,f,_⟩,⟨g,i,_⟩,j,_⟩⟩ k=>LP a b c d (fun y4=>k (.exit 0) ⟨[(2,.ptr 0 0),(8,.ptr 1 0)],[.box [aK,vI f,aK] false,.box [vZ aD g,vI i,.own 2] false,.lst true aY y4 false]⟩) (e,j)⟩
def aEy:=aCI.put tt 135 Tryz.func135 [2,3] [] [(506,aD1)] [.agg cR] [(.p .f .n)] [(true,tI),(false,aD)] (fun x=>VB (x.1.1,(x.1.2.1,x.1.2.2.1))) ⟨fun _ _ hs ⟨⟨_,a,b,_,c,d,e,_⟩,⟨⟨_,f,_⟩,⟨g,i,_⟩,j,_⟩⟩ _ h=>aH hs (fun y=>⟨⟨(),a,b,(),c,d,y.1,()⟩,⟨⟨(),f,(),()⟩,⟨g,i,(),()⟩,y.2,()⟩⟩) (e,j) h.it,trivial⟩ fun _ _ h=>⟨_,h.it,by kernel_rfl⟩
def tG (x0:Int)(x1:List Int)(x2:Int)(x6:List Int)(K0:(List Int)->Prop)(K1:Unit->Prop)(s:Int×List Int)(nx:(Int×List Int)->Prop):Prop :=
 if (decide (s.1<x2))=true then ck (aF s.1 x1.length) (if ((decide ((x1.getD ((s.1).toNat) 0)<0))||(decide (x0<=(x1.getD ((s.1).toNat) 0))))=true then K1 ()else ck (aF (x1.getD ((s.1).toNat) 0) s.2.length) (ck (aF s.1 x6.length) (ck (aF (x1.getD ((s.1).toNat) 0) s.2.length) (nx (i64.wrap (s.1+1),s.2.set ((x1.getD ((s.1).toNat) 0).toNat) (i32.wrap ((s.2.getD ((x1.getD ((s.1).toNat) 0).toNat) 0)+(i32.wrap (x6.getD ((s.1).toNat) 0)))))))))else K0 s.2
structure MN (x0:Int)(x1:List Int)(x2:Int)(x6:List Int)(K0:(List Int)->Prop)(K1:Unit->Prop)(s:Int×List Int):Prop where
 it:Go.Mach.Loop (tG x0 x1 x2 x6 K0 K1) s
structure KU (a0:aZ)(a1 a2:List Int)(Q:(oV×Int)->Prop):Prop where
 it:o5 a2 (fun r1=>dO a0 (fun r2=>if ((!r2)||(r1==0))=true then Q ((([]:List Int),(0,([]:List Int))),1)else if ((a1.length:Int) != (a0.2.2.length:Int))=true then Q ((([]:List Int),(0,([]:List Int))),2)else cC a2 (fun r3=>ck ((0:Int)<=r1/\((4:Nat):Int)*r1<=70368744177664) (MN r1 a1 (a1.length:Int) a0.2.2 (fun y4=>Q ((r3,(a0.2.1,y4)),0)) (fun _=>Q ((([]:List Int),(0,([]:List Int))),1)) (0,List.replicate (r1).toNat (0:Int))))))
def YK:Ent:=⟨[3,6,8,9,38,39,40],[sPt 0,sPt 1,sI,sPt 2,sZ aD,sI,sI],[bT,dG,.box [.cst (.own 3),lI,.cst (.own 4)] false,oQa,oQc],fun⟨⟨_,_,a,_,b,c,d,_⟩,⟨⟨_,_,g,_⟩,⟨_,i,_⟩,⟨_,j,_⟩,l,m,_⟩⟩ k=>MN a b c g (fun y6=>k (.exit 1) ⟨[(6,.ptr 0 0),(9,.ptr 1 0)],[.box [aK,vI i,aK] false,.box [.own 2,vI j,.own 3] false,.lst true aD l false,.lst true aY y6 false]⟩) (fun _=>k .ret ⟨[(6,.ptr 0 0),(7,vI 1)],[.box [aK,vI 0,aK] false]⟩) (d,m)⟩
def nM:=aEy.put tt 139 Tryz.func139 [6,7] [] [(250,YK)] [.agg cR,sZ aD,sZ aD] [] [(true,tI),(false,aD)] (fun x=>KU (x.1.1,(x.1.2.1,x.1.2.2.1)) x.2.1 x.2.2.1) ⟨fun _ _ hs ⟨⟨_,_,a,_,b,c,d,_⟩,⟨⟨e,f,g,_⟩,⟨_,i,_⟩,⟨_,j,_⟩,l,m,_⟩⟩ _ h=>aH hs (fun y=>⟨⟨(),(),a,(),b,c,y.1,()⟩,⟨⟨e,f,g,()⟩,⟨(),i,(),()⟩,⟨(),j,(),()⟩,l,y.2,()⟩⟩) (d,m) h.it,trivial⟩ fun _ _ h=>⟨_,h.it,by kernel_rfl⟩
def cD (x0 x1:Int)(x11 x12:List Int)(K0:(List Int)->Prop)(s:Int×List Int)(nx:(Int×List Int)->Prop):Prop :=
 if (decide (s.1<x1))=true then ck (aF s.1 x12.length) (ck (aF (x12.getD ((s.1).toNat) 0) s.2.length) (ck (aF x0 x11.length) (ck (aF (x12.getD ((s.1).toNat) 0) s.2.length) (nx (i64.wrap (s.1+1),s.2.set ((x12.getD ((s.1).toNat) 0).toNat) (i32.wrap ((s.2.getD ((x12.getD ((s.1).toNat) 0).toNat) 0)+(i32.wrap (x11.getD ((x0).toNat) 0)))))))))else K0 s.2
structure dI (x0 x1:Int)(x11 x12:List Int)(K0:(List Int)->Prop)(s:Int×List Int):Prop where
 it:Go.Mach.Loop (cD x0 x1 x11 x12 K0) s
def nV:Ent:=⟨[0,2,3,8,9,10,30,31,34,39,40,47,48,109,113],[sI,sPt 0,sPt 1,sC (.own 2),sI,sI,.fn 181 [.lf (.cst (.ptr 0 0)),.lf (.cst (.ptr 1 0))],sPt 3,sI,sI,sI,sI,sI,sPt 4,sPt 0],[.box [.cst (.own 5),lI,.cst (.own 6)] false,bT,oQa,.box [lI,lI,lI,lI,lI,lI] false,dG,oQa,oQc],fun⟨⟨a,_,_,_,b,c,_,_,d,e,f,g,i,_⟩,⟨⟨_,j,_⟩,⟨l,m,n,_⟩,o,⟨p,q,t,u,w,z,_⟩,⟨_,a0,_⟩,a1,a2,_⟩⟩ k=>dI a b n o (fun yii3=>k (.exit 0) ⟨[(30,.fn 181 [.ptr 0 0,.ptr 1 0]),(31,.ptr 2 0),(34,vI d),(39,vI e),(40,vI f),(47,vI g),(48,vI i),(109,.ptr 3 0),(113,.ptr 0 0)],[.box [.own 4,vI j,.own 5] false,.box [vZ aD l,vI m,vZ aL n] false,.box [vI p,vI q,vI t,vI u,vI w,vI z] false,.box [aK,vI a0,aK] false,.lst true aD a1 false,.lst true aY yii3 false]⟩) (c,a2)⟩
def dM:Inl:=aCH (nM.cfg tt none false 0) 181 Tryz.f181 [(6,nV)] [30,31,34,39,40,47,48,109,113] []
theorem nG:dX Tryz.prog dM:=C9 (G:=(nM.cfg tt none false 0)) Tryz.func181 nM.ok hI0 ⟨fun _ _ hs ⟨⟨a,_,_,_,b,c,_,_,d,e,f,g,i,_⟩,⟨⟨_,j,_⟩,⟨l,m,n,_⟩,o,⟨p,q,t,u,w,z,_⟩,⟨_,a0,_⟩,a1,a2,_⟩⟩ _ h=>aH hs (fun y=>⟨⟨a,(),(),(),b,y.1,⟨(),(),()⟩,(),d,e,f,g,i,(),(),()⟩,⟨⟨(),j,(),()⟩,⟨l,m,n,()⟩,o,⟨p,q,t,u,w,z,()⟩,⟨(),a0,(),()⟩,a1,y.2,()⟩⟩) (c,a2) h.it,trivial⟩
def eA (x0 x6 x12 x13:Int)(x19:List bG)(K0:(List Int)->Prop)(s:Int×List Int)(nx:(Int×List Int)->Prop):Prop :=
 if (decide (s.1<x6))=true then ck (aF s.1 x19.length) (ck ((s.2.length+[i64.wrap ((i64.wrap ((i64.wrap (x0*x12))*x13))+((x19.getD ((s.1).toNat) (0,(0,0))).1))].length)*8<=140737488355328) (nx (i64.wrap (s.1+1),s.2++[i64.wrap ((i64.wrap ((i64.wrap (x0*x12))*x13))+((x19.getD ((s.1).toNat) (0,(0,0))).1))])))else K0 s.2
structure gV (x0 x6 x12 x13:Int)(x19:List bG)(K0:(List Int)->Prop)(s:Int×List Int):Prop where
 it:Go.Mach.Loop (eA x0 x6 x12 x13 x19 K0) s
def eB (x0 x3:Int)(x8:List Int)(x9 x10 x11 x12 x13 x14:Int)(K0:(List Int)->Prop)(s:Int×List Int)(nx:(Int×List Int)->Prop):Prop :=
 if (decide (s.1<x3))=true then ck (x14≠(0:Int)) (ck (x14≠(0:Int)) (C8 x9 x10 (i64.wrap ((s.1).tdiv x14)) ((s.1).tmod x14) x11 x12 0 (fun ri1=>gV x0 (ri1.length:Int) x9 x10 ri1 (fun yi2=>dI (i64.wrap ((i64.wrap ((i64.wrap (x0*x13))*x14))+s.1)) (yi2.length:Int) x8 yi2 (fun yii2=>nx (i64.wrap (s.1+1),yii2)) (0,s.2)) (0,([]:List Int)))))else K0 s.2
structure gZ (x0 x3:Int)(x8:List Int)(x9 x10 x11 x12 x13 x14:Int)(K0:(List Int)->Prop)(s:Int×List Int):Prop where
 it:Go.Mach.Loop (eB x0 x3 x8 x9 x10 x11 x12 x13 x14 K0) s
def d9 (x0:Int)(x5:List Int)(x6 x7 x8 x9 x10 x11:Int)(K0:(List Int)->Prop)(s:Int×List Int)(nx:(Int×List Int)->Prop):Prop :=
 if (decide (s.1<x0))=true then gZ s.1 (i64.wrap (x10*x11)) x5 x6 x7 x8 x9 x10 x11 (fun yi1=>nx (i64.wrap (s.1+1),yi1)) (0,s.2)else K0 s.2
structure g9 (x0:Int)(x5:List Int)(x6 x7 x8 x9 x10 x11:Int)(K0:(List Int)->Prop)(s:Int×List Int):Prop where
 it:Go.Mach.Loop (d9 x0 x5 x6 x7 x8 x9 x10 x11 K0) s
def wX:Ent:=⟨[2,3,11,12,81,85],[.fn 181 [.lf (.cst (.ptr 0 0)),.lf (.cst (.ptr 1 0))],sPt 2,sI,sI,sPt 3,sPt 0],[.box [.cst (.own 4),lI,.cst (.own 5)] false,bT,.box [lI,lI,lI,lI,lI,lI] false,dG,oQa,oQc],fun⟨⟨_,_,a,b,_⟩,⟨⟨_,c,_⟩,⟨_,_,f,_⟩,⟨g,i,j,l,m,n,_⟩,⟨_,o,_⟩,p,q,_⟩⟩ k=>g9 a f g i j l m n (fun yi3=>k (.exit 0) ⟨[(81,.ptr 0 0),(85,.ptr 1 0)],[.box [aK,vI o,aK] false,.box [.own 2,vI c,.own 3] false,.lst true aD p false,.lst true aY yi3 false]⟩) (b,q)⟩
def wU:Ent:=⟨[2,3,6,11,12,19,20,81,85],[.fn 181 [.lf (.cst (.ptr 0 0)),.lf (.cst (.ptr 1 0))],sPt 2,sI,sI,sI,sI,sI,sPt 3,sPt 0],[.box [.cst (.own 4),lI,.cst (.own 5)] false,bT,.box [lI,lI,lI,lI,lI,lI] false,dG,oQa,oQc],fun⟨⟨_,_,a,b,c,d,e,_⟩,⟨⟨_,f,_⟩,⟨g,i,j,_⟩,⟨l,m,n,o,p,q,_⟩,⟨_,t,_⟩,u,w,_⟩⟩ k=>gZ a d j l m n o p q (fun yi4=>k (.exit 2) ⟨[(2,.fn 181 [.ptr 0 0,.ptr 1 0]),(3,.ptr 2 0),(11,vI b),(12,vI c),(81,.ptr 3 0),(85,.ptr 0 0)],[.box [.own 4,vI f,.own 5] false,.box [vZ aD g,vI i,vZ aL j] false,.box [vI l,vI m,vI n,vI o,vI p,vI q] false,.box [aK,vI t,aK] false,.lst true aD u false,.lst true aY yi4 false]⟩) (e,w)⟩
def xF:Ent:=⟨[2,3,6,7,8,11,12,19,20,39,40,41,81,85],[.fn 181 [.lf (.cst (.ptr 0 0)),.lf (.cst (.ptr 1 0))],sPt 2,sI,sI,aDV,sI,sI,sI,sI,sC (.own 3),sI,sI,sPt 4,sPt 0],[.box [.cst (.own 5),lI,.cst (.own 6)] false,bT,.box [lI,lI,lI,lI,lI,lI] false,.lst true bN false,dG,oQa,oQc],fun⟨⟨_,_,a,b,_,c,d,e,f,_,g,i,_⟩,⟨⟨_,j,_⟩,⟨l,m,n,_⟩,⟨o,p,q,t,u,w,_⟩,z,⟨_,a0,_⟩,a1,a2,_⟩⟩ k=>gV a g o p z (fun yi5=>k (.exit 4) ⟨[(2,.fn 181 [.ptr 0 0,.ptr 1 0]),(3,.ptr 2 0),(6,vI a),(7,vI b),(8,.own 3),(11,vI c),(12,vI d),(19,vI e),(20,vI f),(81,.ptr 4 0),(85,.ptr 0 0)],[.box [.own 5,vI j,.own 6] false,.box [vZ aD l,vI m,vZ aL n] false,.box [vI o,vI p,vI q,vI t,vI u,vI w] false,.lst true aD yi5 false,.box [aK,vI a0,aK] false,.lst true aD a1 false,.lst true aY a2 false]⟩) (i,([]:List Int))⟩
def oD:Inl:=aCH (nM.cfg tt (some dM) false 0) 107 Tryz.f107 [(14,wX),(3686,wU),(3774874,xF)] [81,85] [(3774874,[⟨8,none,false,aD⟩])]
theorem vX:dX Tryz.prog oD:=C9 (G:=(nM.cfg tt (some dM) false 0)) Tryz.func107 nM.ok (hI1 nG) ⟨fun _ _ hs ⟨⟨_,_,a,b,_⟩,⟨⟨_,c,_⟩,⟨d,e,f,_⟩,⟨g,i,j,l,m,n,_⟩,⟨_,o,_⟩,p,q,_⟩⟩ _ h=>aH hs (fun y=>⟨⟨⟨(),(),()⟩,(),a,y.1,(),(),()⟩,⟨⟨(),c,(),()⟩,⟨d,e,f,()⟩,⟨g,i,j,l,m,n,()⟩,⟨(),o,(),()⟩,p,y.2,()⟩⟩) (b,q) h.it,fun _ _ hs ⟨⟨_,_,a,b,c,d,e,_⟩,⟨⟨_,f,_⟩,⟨g,i,j,_⟩,⟨l,m,n,o,p,q,_⟩,⟨_,t,_⟩,u,w,_⟩⟩ _ h=>aH hs (fun y=>⟨⟨⟨(),(),()⟩,(),a,b,c,d,y.1,(),(),()⟩,⟨⟨(),f,(),()⟩,⟨g,i,j,()⟩,⟨l,m,n,o,p,q,()⟩,⟨(),t,(),()⟩,u,y.2,()⟩⟩) (e,w) h.it,fun _ _ hs ⟨⟨_,_,a,b,_,c,d,e,f,_,g,i,_⟩,⟨⟨_,j,_⟩,⟨l,m,n,_⟩,⟨o,p,q,t,u,w,_⟩,z,⟨_,a0,_⟩,a1,a2,_⟩⟩ _ h=>fD hs (fun y=>⟨[(2,.fn 181 [.ptr 0 0,.ptr 1 0]),(3,.ptr 2 0),(6,vI a),(7,vI b),(8,.own 3),(11,vI c),(12,vI d),(19,vI e),(20,vI f),(39,.own 4),(40,vI g),(41,vI y.1),(81,.ptr 5 0),(85,.ptr 0 0)],[.box [.own 6,vI j,.own 7] false,.box [vZ aD l,vI m,vZ aL n] false,.box [vI o,vI p,vI q,vI t,vI u,vI w] false,.lst true aD y.2 false,.lst true bN z false,.box [aK,vI a0,aK] false,.lst true aD a1 false,.lst true aY a2 false]⟩) (i,([]:List Int)) h.it,trivial⟩
structure LO (a0:aZ)(a1:List Int)(a2 a3:Int)(Q:(oV×Int)->Prop):Prop where
 it:dO a0 (fun r1=>jn (fun v2=>if v2=true then Q ((([]:List Int),(0,([]:List Int))),1)else VU a1 a2 a3 (fun r5=>jn (fun v6=>if v6=true then Q ((([]:List Int),(0,([]:List Int))),2)else cC a1 (fun r9=>aCh a2 (fun r10=>o5 a1 (fun r11=>ck ((0:Int)<=r11/\((4:Nat):Int)*r11<=70368744177664) (ck (aF 0 a1.length) (ck (aF 1 a1.length) (g9 (i64.wrap ((a1.getD 0 0)*(a1.getD 1 0))) a0.2.2 r5.1.1 r5.1.2.1 r5.1.2.2.1 r5.1.2.2.2.1 r5.1.2.2.2.2.1 r5.1.2.2.2.2.2 (fun yi2=>Q ((r9,((i64.wrap (a0.2.1-r10)),yi2)),0)) (0,List.replicate (r11).toNat (0:Int))))))))) (fun J7=>if (!r5.2)=true then J7 true else ck (aF 0 a1.length) (ck (aF 1 a1.length) (iZ a0.1 [a1.getD 0 0,a1.getD 1 0,r5.1.2.2.2.2.1,r5.1.2.2.2.2.2] (fun r8=>J7 (!r8))))))) (fun J3=>if (!r1)=true then J3 true else j7 a1 (fun r4=>J3 (!r4))))
def aAB:=nM.putX tt 140 Tryz.func140 [8,9] [] [] [.agg cR,sZ aD,sI,sI] [] [(true,tI),(false,aD)] (fun x=>LO (x.1.1,(x.1.2.1,x.1.2.2.1)) x.2.1 x.2.2.1 x.2.2.2.1) [] (some oD) false 0 (hI1 vX) trivial fun _ _ h=>⟨_,h.it,by kernel_rfl⟩
structure MK (a0:Int)(a1:List Int)(a2:Int)(a3 a4:List Int)(a5:Int)(a6:List Int)(Q:Int->Prop):Prop where
 it:ck (aF a0 a3.length) (if (decide (0<(a3.getD ((a0).toNat) 0)))=true then ck (aF a0 a6.length) (Q (a6.getD ((a0).toNat) 0))else Q 0)
def UZ:=aAB.put tt 178 Tryz.func178 [4] [] [] [sI,.bx cR,.bx cR] [] [(false,aL)] (fun x=>MK x.1 x.2.1.1 x.2.1.2.1 x.2.1.2.2.1 x.2.2.1.1 x.2.2.1.2.1 x.2.2.1.2.2.1) trivial fun _ _ h=>⟨_,h.it,by kernel_rfl⟩
def fI (x0:List Int)(x1:Int)(x2 x3:List Int)(x4:Int)(x5:List Int)(x6:Int)(K0:(List Int)->Prop)(s:Int×List Int)(nx:(Int×List Int)->Prop):Prop :=
 if (decide (s.1<x6))=true then MK s.1 x0 x1 x2 x3 x4 x5 (fun r3=>ck ((s.2.length+[r3].length)*1<=140737488355328) (nx (i64.wrap (s.1+1),s.2++[r3])))else K0 s.2
structure qI (x0:List Int)(x1:Int)(x2 x3:List Int)(x4:Int)(x5:List Int)(x6:Int)(K0:(List Int)->Prop)(s:Int×List Int):Prop where
 it:Go.Mach.Loop (fI x0 x1 x2 x3 x4 x5 x6 K0) s
structure tP (a0:aZ)(a1:List Int)(a2:Int)(a3 a4:List Int)(a5:Int)(a6:List Int)(Q:aZ->Prop):Prop where
 it:cC a0.1 (fun r1=>qI a1 a2 a3 a4 a5 a6 (a0.2.2.length:Int) (fun y4=>Q (r1,(a0.2.1,y4))) (0,([]:List Int)))
def A7:Ent:=⟨[1,4,5,15,16],[.fn 178 [.bx cR,.bx cR],sPt 0,sPt 1,sI,sI],[dG,.box [.cst (.own 2),lI,eE] false,oQa],fun⟨⟨⟨⟨a,b,c,_⟩,⟨d,e,f,_⟩,_⟩,_,_,g,i,_⟩,⟨⟨_,j,_⟩,⟨_,l,_⟩,m,_⟩⟩ k=>qI a b c d e f g (fun y5=>k (.exit 0) ⟨[(4,.ptr 0 0),(5,.ptr 1 0)],[.box [aK,vI j,aK] false,.box [.own 2,vI l,.own 3] false,.lst true aD m false,.lst true aL y5 false]⟩) (i,([]:List Int))⟩
def BW:=UZ.putX tt 109 Tryz.func109 [4] [(58,[⟨5,some 2,false,aL⟩])] [(58,A7)] [.agg cR,.fn 178 [.bx cR,.bx cR]] [] [(true,aX)] (fun x=>tP (x.1.1,(x.1.2.1,x.1.2.2.1)) x.2.1.1.1 x.2.1.1.2.1 x.2.1.1.2.2.1 x.2.1.2.1.1 x.2.1.2.1.2.1 x.2.1.2.1.2.2.1) [178] none false 0 hI0 ⟨fun _ _ hs ⟨⟨⟨⟨a,b,c,_⟩,⟨d,e,f,_⟩,_⟩,_,_,g,i,_⟩,⟨⟨_,j,_⟩,⟨_,l,_⟩,m,_⟩⟩ _ h=>fD hs (fun y=>⟨[(1,.fn 178 [.bx [vZ aD a,vI b,vZ aL c] 0,.bx [vZ aD d,vI e,vZ aL f] 0]),(4,.ptr 0 0),(5,.ptr 1 0),(15,vI g),(16,vI y.1)],[.box [aK,vI j,aK] false,.box [.own 2,vI l,.own 3] false,.lst true aD m false,.lst true aL y.2 false]⟩) (i,([]:List Int)) h.it,trivial⟩ fun _ _ h=>⟨_,h.it,by kernel_rfl⟩
structure HB (a0 a1:aZ)(Q:(aZ×Int)->Prop):Prop where
 it:dO a0 (fun r1=>jn (fun v2=>if v2=true then Q ((([]:List Int),(0,([]:List Int))),1)else iZ a0.1 a1.1 (fun r5=>if (!r5)=true then Q ((([]:List Int),(0,([]:List Int))),2)else tP a0 a1.1 a1.2.1 a1.2.2 a0.1 a0.2.1 a0.2.2 (fun r6=>Q (r6,0)))) (fun J3=>if (!r1)=true then J3 true else dO a1 (fun r4=>J3 (!r4))))
def YL:=BW.put tt 136 Tryz.func136 [4,5] [] [] [.agg cR,.agg cR] [] [(true,aX),(false,aD)] (fun x=>HB (x.1.1,(x.1.2.1,x.1.2.2.1)) (x.2.1.1,(x.2.1.2.1,x.2.1.2.2.1))) trivial fun _ _ h=>⟨_,h.it,by kernel_rfl⟩
structure rE (x2:Int)(K0:Int->Prop):Prop where
 it:K0 (i64.wrap (x2+1))
def kJ (x0:List Int)(x1:Int)(K0:(List Int)->Prop)(s:Int×List Int)(nx:(Int×List Int)->Prop):Prop :=
 if (decide (s.1<x1))=true then jn (fun v1=>if v1=true then ck (aF s.1 x0.length) (ck (aF s.1 s.2.length) (rE s.1 (fun y3=>nx (y3,(s.2.set ((s.1).toNat) (x0.getD ((s.1).toNat) 0))))))else rE s.1 (fun y4=>nx (y4,s.2))) (fun J2=>if (decide (s.1<(x0.length:Int)))=true then ck (aF s.1 x0.length) (J2 ((x0.getD ((s.1).toNat) 0) != (-128)))else J2 false)else K0 s.2
structure yM (x0:List Int)(x1:Int)(K0:(List Int)->Prop)(s:Int×List Int):Prop where
 it:Go.Mach.Loop (kJ x0 x1 K0) s
structure u9 (a0:aZ)(a1:List Int)(a2:Int)(Q:aZ->Prop):Prop where
 it:ck ((([]:List Int).length+a0.1.length)*8<=140737488355328) (ck (20≠(0:Int)) (ck ((0:Int)<=(a0.2.2.length:Int)/\((1:Nat):Int)*(a0.2.2.length:Int)<=70368744177664) (yM a1 ((List.replicate ((a0.2.2.length:Int)).toNat (0:Int)).length:Int) (fun y5=>Q ((([]:List Int)++a0.1),(((a2).tmod 20),y5))) (0,List.replicate ((a0.2.2.length:Int)).toNat (0:Int)))))
def JV:Ent:=⟨[1,6,7,22,23],[sZ aL,sPt 0,sPt 1,sI,sI],[dG,.box [.cst (.own 2),lI,.cst (.own 3)] false,oQa,.lst true aL false],fun⟨⟨a,_,_,b,c,_⟩,⟨⟨_,d,_⟩,⟨_,e,_⟩,f,g,_⟩⟩ k=>yM a b (fun y6=>k (.exit 0) ⟨[(6,.ptr 0 0),(7,.ptr 1 0)],[.box [aK,vI d,aK] false,.box [.own 2,vI e,.own 3] false,.lst true aD f false,.lst true aL y6 false]⟩) (c,g)⟩
def LM:Ent:=⟨[1,6,7,22,23],[sZ aL,sPt 0,sPt 1,sI,sI],[dG,.box [.cst (.own 2),lI,.cst (.own 3)] false,oQa,.lst true aL false],fun⟨⟨a,_,_,b,c,_⟩,⟨⟨_,d,_⟩,⟨_,e,_⟩,f,g,_⟩⟩ k=>rE c (fun y7=>k .normal ⟨[(1,vZ aL a),(6,.ptr 0 0),(7,.ptr 1 0),(22,vI b),(23,vI y7)],[.box [aK,vI d,aK] false,.box [.own 2,vI e,.own 3] false,.lst true aD f false,.lst true aL g false]⟩)⟩
def NK:=YL.put tt 15 Tryz.func15 [6] [] [(58,JV),(935,LM)] [.agg cR,sZ aL,sI] [] [(true,aX)] (fun x=>u9 (x.1.1,(x.1.2.1,x.1.2.2.1)) x.2.1 x.2.2.1) ⟨fun _ _ hs ⟨⟨a,_,_,b,c,_⟩,⟨⟨_,d,_⟩,⟨_,e,_⟩,f,g,_⟩⟩ _ h=>aH hs (fun y=>⟨⟨a,(),(),b,y.1,()⟩,⟨⟨(),d,(),()⟩,⟨(),e,(),()⟩,f,y.2,()⟩⟩) (c,g) h.it,fun _ _ hs ⟨⟨_,_,_,_,_,_⟩,⟨⟨_,_,_⟩,⟨_,_,_⟩,_,_,_⟩⟩ _ h=>aN hs h.it,trivial⟩ fun _ _ h=>⟨_,h.it,by kernel_rfl⟩
end
end Go.Proofs.YtcfpfefadlnmcaaGreat
