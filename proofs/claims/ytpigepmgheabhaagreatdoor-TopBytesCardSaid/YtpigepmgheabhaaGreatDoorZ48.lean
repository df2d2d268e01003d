/- Part of the proof. No condition. -/
import Derived.Test.YtpigepmgheabhaaGreatDoorYJRU2
import Derived.Test.YtpigepmgheabhaaGreatDoorYSound
import Derived.Test.YtpigepmgheabhaaGreatDoorYExtS
import Derived.Test.YtpigepmgheabhaaGreatDoorZ35
import Derived.Lib.LaidTab
import Derived.Test.YtpigepmgheabhaaGreatDoorRows
import Derived.Lib.LaidIn
import Derived.LaidLaws
namespace Go.Mach.J
open Go Go.Mach Go.RowKit
def aFP:KC:=fun fl f args H k=>HT.rec (motive:=fun _=>Prop) (fun n _ =>
    (ifB (Nat.beq n 4) (h0 fun G=>(fl=4/\f=11/\args=[]/\H=G)/\h1 fun G=>k (p 958 0) G)
    (ifB (Nat.beq n 959) (h1 fun G=>(fl=4/\f=12/\args=[(p 958 0),(.string ⟨⟨[116,114,97,105,110,32,50]⟩⟩)]/\H=G)/\h6 fun G=>k (.string ⟨⟨[111,107,32,50]⟩⟩) G)
    (ifB (Nat.beq n 4627) (h6 fun G=>(fl=4/\f=12/\args=[(p 958 0),(.string ⟨⟨[99,104,101,99,107]⟩⟩)]/\H=G)/\h7 fun G=>k (.string ⟨⟨[111,107,32,50]⟩⟩) G)
    (ifB (Nat.beq n 5119) (h7 fun G=>(fl=4/\f=12/\args=[(p 958 0),(.string ⟨⟨[116,114,97,105,110,32,49]⟩⟩)]/\H=G)/\h10 fun G=>k (.string ⟨⟨[111,107,32,49]⟩⟩) G)
    (ifB (Nat.beq n 6957) (h10 fun G=>(fl=4/\f=12/\args=[(p 958 0),(.string ⟨⟨[99,114,97,115,104,32,45]⟩⟩)]/\H=G)/\h11 fun G=>k (.string ⟨⟨[111,107,32,50]⟩⟩) G)
    (ifB (Nat.beq n 7283) (h11 fun G=>(fl=4/\f=12/\args=[(p 958 0),(.string ⟨⟨[115,116,101,112]⟩⟩)]/\H=G)/\h12 fun G=>k (.string ⟨⟨[50]⟩⟩) G)
    False))))))) H
set_option maxRecDepth 100000 in
theorem aCu:f8 (jI kG (lA Go.Proofs.Tryz.prog) Go.Proofs.Tryz.prog 100004) aFP:=by
 have hk:=rF kG (rH Go.Proofs.Tryz.prog) Go.Proofs.Tryz.prog
 have hS:=BO (xb:=kG) (P:=Go.Proofs.Tryz.prog) (YC Go.Proofs.Tryz.prog) hk 100004
 have hC:f8 (jI kG (lA Go.Proofs.Tryz.prog) Go.Proofs.Tryz.prog 100004) (aDs kG Go.Proofs.Tryz.prog xk aDC 99999 UN 5):=XO (M:=99999) (YC Go.Proofs.Tryz.prog) hk (aCy (rH Go.Proofs.Tryz.prog)) 5
 intro fl f args K H k hH h
 obtain⟨n,tr⟩:=K
 rcases cO.1 h with⟨_,h⟩|⟨_,h⟩
 ·exact IV hx0 hx1 hS aHz hH h
 rcases cO.1 h with⟨_,h⟩|⟨_,h⟩
 ·exact aBB (E:=fun Z=>en0 (en1 Z)) (fun Z h=>aFt (aEu h)) hx1 hx6 hC aGl hH h
 rcases cO.1 h with⟨_,h⟩|⟨_,h⟩
 ·exact IV hx6 hx7 hS aIB hH h
 rcases cO.1 h with⟨_,h⟩|⟨_,h⟩
 ·exact aBB (E:=fun Z=>en2 Z) (fun Z h=>aFu h) hx7 aHN hC aHy hH h
 rcases cO.1 h with⟨_,h⟩|⟨_,h⟩
 ·exact IV aHN aGk hS aGx hH h
 rcases cO.1 h with⟨_,h⟩|⟨_,h⟩
 ·exact IV aGk aIJ hS aGY hH h
 exact h.elim
def ea0 (Z:Prop):Prop:=h0 fun G=>((4:Nat)=4/\(11:FuncId)=11/\([]:List Value)=[]/\G=G)/\Z
theorem aGL {Z:Prop}(h:Z):ea0 Z:=⟨⟨rfl,rfl,rfl,rfl⟩,h⟩
def ea1 (Z:Prop):Prop:=h1 fun G=>((4:Nat)=4/\(12:FuncId)=12/\([(p 958 0),(.string ⟨⟨[116,114,97,105,110,32,50]⟩⟩)]:List Value)=[(p 958 0),(.string ⟨⟨[116,114,97,105,110,32,50]⟩⟩)]/\G=G)/\Z
theorem aFo {Z:Prop}(h:Z):ea1 Z:=⟨⟨rfl,rfl,rfl,rfl⟩,h⟩
def ea2 (Z:Prop):Prop:=h6 fun G=>((4:Nat)=4/\(12:FuncId)=12/\([(p 958 0),(.string ⟨⟨[99,104,101,99,107]⟩⟩)]:List Value)=[(p 958 0),(.string ⟨⟨[99,104,101,99,107]⟩⟩)]/\G=G)/\Z
theorem aEx {Z:Prop}(h:Z):ea2 Z:=⟨⟨rfl,rfl,rfl,rfl⟩,h⟩
def ea3 (Z:Prop):Prop:=h7 fun G=>((4:Nat)=4/\(12:FuncId)=12/\([(p 958 0),(.string ⟨⟨[116,114,97,105,110,32,49]⟩⟩)]:List Value)=[(p 958 0),(.string ⟨⟨[116,114,97,105,110,32,49]⟩⟩)]/\G=G)/\Z
theorem aF3 {Z:Prop}(h:Z):ea3 Z:=⟨⟨rfl,rfl,rfl,rfl⟩,h⟩
def ea4 (Z:Prop):Prop:=h10 fun G=>((4:Nat)=4/\(12:FuncId)=12/\([(p 958 0),(.string ⟨⟨[99,114,97,115,104,32,45]⟩⟩)]:List Value)=[(p 958 0),(.string ⟨⟨[99,114,97,115,104,32,45]⟩⟩)]/\G=G)/\Z
theorem aF6 {Z:Prop}(h:Z):ea4 Z:=⟨⟨rfl,rfl,rfl,rfl⟩,h⟩
def ea5 (Z:Prop):Prop:=h11 fun G=>((4:Nat)=4/\(12:FuncId)=12/\([(p 958 0),(.string ⟨⟨[115,116,101,112]⟩⟩)]:List Value)=[(p 958 0),(.string ⟨⟨[115,116,101,112]⟩⟩)]/\G=G)/\Z
theorem aGA {Z:Prop}(h:Z):ea5 Z:=⟨⟨rfl,rfl,rfl,rfl⟩,h⟩
theorem aGD:kfn kG Go.Proofs.Tryz.prog xk aFP 100004 4 4 [] ⟨4,.c none⟩ (fun v _=>v = .bool true)=ea0 (ea1 (ea2 (ea3 (ea4 (ea5 (Value.bool true=Value.bool true)))))):=by kernel_rfl
theorem YZ:∃ (n:Nat) (H':aD),jI kG (lA Go.Proofs.Tryz.prog) Go.Proofs.Tryz.prog n 4 4 ⟨[]⟩ (FN 4)=some (.bool true,H'):=by
 have hS:=aCu
 have h:aGB (kfn kG Go.Proofs.Tryz.prog xk aFP 100004 4 4 [] ⟨4,.c none⟩ (fun v _=>v = .bool true)):=aEC aGD (aGL (aFo (aEx (aF3 (aF6 (aGA (rfl)))))))
 have hk:=rF kG (rH Go.Proofs.Tryz.prog) Go.Proofs.Tryz.prog 100004
 generalize (100004:Nat)=n at hS h hk
 exact⟨n+1,aDa (YC Go.Proofs.Tryz.prog) hS hk (ZX rfl) h⟩
theorem aBT {w:World}(h:4<=w.heap.size):Sim 4 w All (fun _=>none) (FN 4) w where
 base_le:=h
 old:=fun b _=>rfl
 dom:=fun id L h=>by cases h
 apart:=fun id L _ h=>by cases h
 stat:=fun id L B h=>by cases h
 cont:=fun id L B _ h=>by cases h
 inj:=fun id id' L L' _ _ h=>by cases h
theorem WW:BI=4:=by decide
theorem aA1:(FN 4).length=4:=by unfold FN;rw[List.length_replicate]
theorem V4 {xb:FuncId->Bool}{xf:aQ}(hk:CallerKept xf){w:World}(hL:LibVars w)(hX:CallerSound 4 w Go.Proofs.Tryz.prog xf){n:Nat}{f:FuncId}{args:List Value}{H':aD}
 (ha:LRel (fun _=>none) args args) (h:jI xb xf Go.Proofs.Tryz.prog n 4 f ⟨args⟩ (FN 4)=some (.bool true,H')) :
 Calls Go.Proofs.Tryz.prog f ⟨args⟩ w fun e w'=>e = .returned (.bool true)/\Below w.heap.size w w':=by
 have hm:Go.Proofs.Tryz.prog.follows .mixedOrders=true:=by kernel_rfl
 refine(GA (base:=4) (w0:=w) xb hk Go.Proofs.Tryz.prog hX hm n 4 f ⟨args⟩ ⟨args⟩ (fun _=>none) (FN 4) H' w (.bool true) (aBT (by rw[<- WW];exact hL.top)) (aF _) (by rw[aA1];exact aF _) (fun _ _ _=>rfl) ha h).mono ?_
 rintro e w' ⟨v',ρ',rfl,hv,st⟩
 cases hv
 exact⟨rfl,st.side.1,st.side.2.1,st.side.2.2,st.grow,fun b hb=>st.frame b hb fun id L _ _ _ h _=>by cases h⟩
theorem awake_calls {w:World}(hL:LibVars w):Calls Go.Proofs.Tryz.prog 4 #[] w fun e w'=>e = .returned (.bool true)/\Below w.heap.size w w':=by
 obtain⟨n,H',h⟩:=YZ
 exact V4 (args:=[]) (rH Go.Proofs.Tryz.prog) hL (FA hL (by rw[WW];exact aF _)) (LRel.nil _) h
end Go.Mach.J
namespace Go.Mach
theorem extF_sound {base:Nat}{w0:World}(hL:LibVars w0)(hb:BI<=base):CallerSound base w0 Go.Proofs.Tryz.prog (zA Go.Proofs.Tryz.prog):=by
 intro fl f args cargs ρ H H' w v S hbf hfl hfr hargs h
 simp only[zA]at h
 split at h
 ·rename_i hal
  split at h
  ·rename_i hf
   cases h
   subst hf
   rw[hal]at hargs
   have hc:cargs = #[]:=by
    have:=hargs.inv_nil
    cases cargs;simp at this;rw[this]
   subst hc
   refine(J.awake_calls (hL.now S hb)).mono ?_
   rintro e w' ⟨rfl,hb⟩
   exact⟨_,ρ,rfl,.bool _,Step.behind S hb⟩
  ·cases h
 ·exact VC hL hb fl f args cargs ρ H H' w v S hbf hfl hfr hargs h
end Go.Mach

namespace Go.Proofs.YtpigepmgheabhaaGreatDoor
open IntKind (i8 i16 i32 i64 u8 u16 u32 u64)
open Go.Mach
theorem SH {l:List Int}(h:CH (.slc (.int .u8)) l):Byt l:=fun x hx=>by
 have:=aGQ (h.2 x hx)
 have e1:u8.min=0:=by decide
 have e2:u8.max=255:=by decide
 rw[e1,e2]at this
 exact this
theorem aAP {a:ByteArray}{b c:List Int}(hb:CH (.slc (.int .u8)) b)(hc:CH (.slc (.int .u8)) c){Q:Bool->Prop}(hq:Q true):f7 a b c Q:=Z0 (SH hb) (SH hc) hq
end Go.Proofs.YtpigepmgheabhaaGreatDoor

namespace Go.Mach
open Go.Lib
theorem DM {P:Program}{W:World}{name:String}{k:IntKind}{zs:List Int}{g:Nat}{t e:TypeId}{n:Nat}
 (hg:P.globalNamed name=some g) (hty:(P.globals[g]?).map (·.type)=some t) (ht:P.underlying t=some (.array n e)) (he:P.underlying e=some (.int k)) (hce:P.cellsOf e=1) (hct:P.cellsOf t=n) :
 ∀ {l:List (String×DataW Unit)} {ps:List MemPlace},DataW.LaidVars P W l ps->(name,tabData k zs)∈l->TabIs P W name k zs
 | [],_,_,hm=>by cases hm
 | (n',d')::r,ps,h,hm=>by
   obtain⟨g',t',cs,fuel,p,q,hg',ht',hvar,hd,hr,_⟩:=h
   rcases List.mem_cons.1 hm with e1|e1
   ·cases e1
    obtain rfl:=Option.some.inj (hg.symm.trans hg')
    obtain rfl:=Option.some.inj (hty.symm.trans ht')
    unfold TabIs
    rw[hvar,<- cells_of_tab ht he hce hct hd]
   ·exact DM hg hty ht he hce hct hr e1
theorem aBh {P:Program}{W:World}{name:String}{k:IntKind}{zs:List Int}{g:Nat}{t e:TypeId}{n:Nat}{l:List (String×DataW Unit)}
 (hg:P.globalNamed name=some g) (hty:(P.globals[g]?).map (·.type)=some t) (ht:P.underlying t=some (.array n e)) (he:P.underlying e=some (.int k)) (hce:P.cellsOf e=1) (hct:P.cellsOf t=n)
 (h:laidMet P l W) (hm:(name,tabData k zs)∈l):TabIs P W name k zs:=by
 obtain⟨ps,h1,_⟩:=h
 exact DM hg hty ht he hce hct h1 hm
end Go.Mach

namespace Go.Mach
open Go.Lib
theorem qM {P:Program}{W:World}{name nm:String}{d:DataW Unit}{g:Nat}{ti:TypeId}{ms:Array (String×TypeId)}
 (hg:P.globalNamed name=some g) (hty:(P.globals[g]?).map (·.type)=some ti) (hi:P.underlying ti=some (.interface ms)) :
 ∀ {l:List (String×DataW Unit)} {ps:List MemPlace},DataW.LaidVars P W l ps->(name,.iface nm d)∈l->∃ ev,W.cell? ⟨g,0,none⟩=some ev/\(ev = .nilIface\/∃ te pe,ev = .iface te pe)
 | [],_,_,hm=>by cases hm
 | (n',d')::r,ps,h,hm=>by
   obtain⟨g',t',cs,fuel,p,q,hg',ht',hvar,hd,hr,_⟩:=h
   rcases List.mem_cons.1 hm with e1|e1
   ·cases e1
    obtain rfl:=eR (hg.symm.trans hg')
    obtain rfl:=eR (hty.symm.trans ht')
    obtain⟨_,u,v,hcs,_⟩:=iface_of_trod hi hd
    obtain⟨l0⟩:=cs
    have hcs:l0=[.iface u v]:=hcs
    subst hcs
    exact⟨.iface u v,by simpa using World.var?_cell hg hvar 0,.inr ⟨u,v,rfl⟩⟩
   ·exact qM hg hty hi hr e1
def aEG:DataW Unit->List Value
 | .lit (.int k z)=>[.int k z]
 | .agg l=>l.flatMap fun d=>match d with
   | .lit (.int k z)=>[.int k z]
   | _=>[]
 | _=>[]
def tE:DataW Unit->Array Value
 | .agg l=>(l.flatMap aEG).toArray
 | _ => #[]
end Go.Mach
namespace Go.Proofs.YtpigepmgheabhaaGreatDoor
open Go.Mach Go.Lib Go.RowKit
set_option maxRecDepth 100000
abbrev aFH:ByteArray:=⟨#[118,97,108,117,101,32,111,117,116,32,111,102,32,114,97,110,103,101]⟩
abbrev aId:ByteArray:=⟨#[105,110,118,97,108,105,100,32,115,121,110,116,97,120]⟩
noncomputable def low:Nat:=(World.holding Tryz.prog default ⟨#[],#[],[]⟩).heap.size
noncomputable def yD (os:Os):World :=
 let w0:=World.holding Tryz.prog os ⟨#[.cells #[.string aFH] 310,.cells #[.string aId] 310],#[],[]⟩
 let put (h:Array Obj) (g:Nat) (cs:Array Value):Array Obj:=h.modify g fun
  | .cells _ t frozen => .cells cs t frozen
  | o=>o
 let h0:=put w0.heap 6 (tE Rows.laid_math_bits_deBruijn32tab)
 let h1:=put h0 7 (tE Rows.laid_math_bits_deBruijn64tab)
 let h2:=put h1 3 (tE Rows.laid_internal_strconv_uint64pow10)
 let h3:=put h2 5 (tE Rows.laid_unicode_utf8_acceptRanges)
 let h4:=put h3 2 #[.iface 308 (.pointer (some ⟨low,0,none⟩))]
 let h5:=put h4 1 #[.iface 308 (.pointer (some ⟨low+1,0,none⟩))]
 let h6:=put h5 4 (tE Rows.laid_unicode_utf8_first)
 { w0 with heap:=h6 }
theorem aBN (os:Os)(avs:Array Value):laidMet Tryz.prog Rows.topBytesRow.laid ((yD os).forCall (fun _ _=>0) ⟨#[],avs,[]⟩).memory :=
 (LaidIn.of_run [6,7,3,5,2,low,1,low+1,4] 8 (by kernel_rfl) (by kernel_rfl) (by kernel_rfl) (by kernel_rfl)).met
theorem aCr {W:World}(hL:laidMet Tryz.prog Rows.topBytesRow.laid W)(hs:W.ShapedOpen Tryz.prog):LibVars W:=by
 refine⟨?_,Tryz.laysM146.s1_3 W hs,?_,?_⟩
 ·exact aBh (l:=Rows.topBytesRow.laid) (g:=3) (t:=275) (e:=40) (n:=20) (by kernel_rfl) (by kernel_rfl) (by kernel_rfl) (by kernel_rfl) (by kernel_rfl) (by kernel_rfl) hL
   (by rw[show("internal/strconv.uint64pow10",Lib.tabData .u64 Lib.pow10Tab)=("internal/strconv.uint64pow10",(Rows.laid_internal_strconv_uint64pow10:DataW Unit)) by kernel_rfl];exact .tail _ (.tail _ (.head _)))
 ·obtain⟨ps,h1,_⟩:=hL
  exact qM (g:=2) (ti:=169) (by kernel_rfl) (by kernel_rfl) Tryz.underlying169 h1 (.tail _ (.tail _ (.tail _ (.tail _ (.head _)))))
 ·obtain⟨ps,h1,_⟩:=hL
  exact qM (g:=1) (ti:=169) (by kernel_rfl) (by kernel_rfl) Tryz.underlying169 h1 (.tail _ (.tail _ (.tail _ (.tail _ (.tail _ (.head _))))))
end Go.Proofs.YtpigepmgheabhaaGreatDoor
