/- Part of the proof. No condition. -/
import Derived.RangeFuncBox
import Derived.RangeFuncLeaves
import Derived.Shelf.Abstract
import Derived.WalkKit
import Derived.OwnWalkIn
import Derived.TacticsInMore
import Derived.LoopNIn
import Derived.LoopIn
import Derived.Maps.AppendAt
import Derived.Sort.QuietTacIn
import Derived.Test.YtpigepmgheabhaaGreatDoorYLib
import Derived.Sort.Grow
import Derived.Below
import Derived.Test.YtpigepmgheabhaaGreatDoorProg
import Derived.Test.YtpigepmgheabhaaGreatDoorYStep
namespace Go.Mach
open IntKind (i8 i16 i32 i64 u8 u16 u32 u64)
open Go.RowKit Go.Shelf Go.Proofs Go.Sort
attribute [local go_sem] Oper.semAt_some
theorem Step.behind {base:Nat}{w0:World}{A W:Nat->Prop}{fl:Nat}{ρ:Ren}{H:aD}{w w':World}(S:Sim base w0 A ρ H w)(hw:Below w.heap.size w w') :
 Step base w0 A W fl ρ H w ρ H w' where
 sim:=by
  refine⟨by have:=S.base_le;have:=hw.size;omega,fun b h => ?_,fun id L h => ?_,S.apart,S.stat,fun id L B a hr hb => ?_,fun id id' L L' a a' hr hr' hb hb' => ?_⟩
  ·rw[hw.block b (by have:=S.base_le;omega)];exact S.old b h
  ·have:=S.dom id L h;have:=hw.size;exact⟨by omega,(S.dom id L h).2⟩
  ·have:=blk?_lt (H:=H) (id:=id) (by rw[hb];rfl)
   rw[hw.block _ (S.dom id L hr).1]
   exact S.cont id L B (a.resolve_right (by omega)) hr hb
  ·have:=blk?_lt hb;have:=blk?_lt hb'
   exact S.inj id id' L L' (a.resolve_right (by omega)) (a'.resolve_right (by omega)) hr hr' hb hb'
 ext:=Ext.refl ρ
 new:=fun id L h h'=>by rw[h]at h';cases h'
 frame:=fun b h _=>hw.block b h
 grow:=hw.size
 side:=⟨hw.os,hw.tape,hw.output⟩
 len:=aF _
 keep:=fun _ _ _=>rfl
 dead:=fun _ _ h=>h
theorem Step.far {base:Nat}{w0:World}{A W:Nat->Prop}{fl:Nat}{ρ:Ren}{H:aD}{w w':World}(S:Sim base w0 A ρ H w)(hfr:ρ H.length=none)(hbH:base<=H.length)
 (cs:List Value) (cc:Array Value) (e:TypeId) (fz:Nat×Nat) (es:Nat) (exact:Bool) (g:Nat) (hw:Below w.heap.size w w') (hg:w.heap.size<=g) (hgb:w'.heap[g]? = some (.cells cc e fz))
 (hn:cs.length<=cc.size) (hex:exact=true->cs.length=cc.size) (hfz:fz.1=fz.2\/cc.size<=fz.1)
 (hrel:∀ (i:Nat) v,cs[i]? = some v->∃ v',cc[i]? = some v'/\VRel ρ v v') :
 Step base w0 A W fl ρ H w (WH ρ H.length ⟨g,0,cc.size,cs.length,es,exact⟩) (H++[⟨cs,es,exact,true⟩]) w':=by
 have ext:=JP ⟨g,0,cc.size,cs.length,es,exact⟩ hfr
 have hgl:g<w'.heap.size:=(Array.getElem?_eq_some_iff.1 hgb).1
 have hsz:=hw.size
 have hold:∀ b,b<w.heap.size->w'.heap[b]? = w.heap[b]? := hw.block
 refine⟨⟨by have:=S.base_le;omega,fun b h => ?_,fun id L h => ?_,fun id L h0 h => ?_,fun id L B h hB => ?_,fun id L B a h hB => ?_,fun id id' L L' a a' h h' hl hl' b1 b2 he => ?_⟩,ext,fun id L h h' => ?_,fun b h _=>hold b h,by omega,⟨hw.os,hw.tape,hw.output⟩,by simp,fun id h _ => ?_,fun id h hl => ?_⟩
 ·rw[hold b (by have:=S.base_le;omega)];exact S.old b h
 ·by_cases hi:id=H.length
  ·subst hi;rw[bC]at h;cases h;exact⟨hgl,fun _=>bY S.base_le hg⟩
  ·rw[dF _ _ hi]at h;exact⟨by have:=(S.dom id L h).1;omega,(S.dom id L h).2⟩
 ·rw[dF _ _ (by omega)]at h;exact S.apart id L h0 h
 ·by_cases hi:id=H.length
  ·subst hi;rw[bC]at h;cases h
   simp at hB;subst hB
   exact⟨rfl,rfl,rfl,hn,hex⟩
  ·rw[dF _ _ hi]at h
   have hlt:id<H.length:=by
    have:=(List.getElem?_eq_some_iff.1 hB).1
    simp at this;omega
   rw[dL hlt]at hB
   exact S.stat id L B h hB
 ·by_cases hi:id=H.length
  ·subst hi;rw[bC]at h;cases h
   have hB':B=⟨cs,es,exact,true⟩:=by simpa [blk?] using hB.symm
   subst hB'
   refine⟨cc,e,fz,hgb,by simp,fun _=>hfz,fun i v hv _ => ?_⟩
   obtain⟨v',h1,h2⟩:=hrel i v hv
   exact⟨v',by simpa using h1,h2.mono ext⟩
  ·rw[dF _ _ hi]at h
   have hlt:id<H.length:=by
    have:=blk?_lt (H:=H++[_]) (id:=id) (by rw[hB];rfl)
    simp at this;omega
   rw[blk?_append_left hlt]at hB
   obtain⟨c2,e2,f2,h1,h2,h3,h4⟩:=S.cont id L B (a.resolve_right (by omega)) h hB
   refine⟨c2,e2,f2,by rw[hold _ (S.dom id L h).1];exact h1,h2,h3,fun i v hv hh => ?_⟩
   obtain⟨v',p,q⟩:=h4 i v hv hh
   exact⟨v',p,q.mono ext⟩
 ·by_cases hi:id=H.length
  ·by_cases hi':id'=H.length
   ·omega
   ·subst hi;rw[bC]at h;cases h
    rw[dF _ _ hi']at h'
    have:=(S.dom id' L' h').1
    simp at he;omega
  ·by_cases hi':id'=H.length
   ·subst hi';rw[bC]at h';cases h'
    rw[dF _ _ hi]at h
    have:=(S.dom id L h).1
    simp at he;omega
   ·rw[dF _ _ hi]at h;rw[dF _ _ hi']at h'
    have k1:=blk?_lt hl;have k2:=blk?_lt hl'
    simp at k1 k2
    rw[blk?_append_left (by omega)]at hl hl'
    exact S.inj id id' L L' (a.resolve_right (by omega)) (a'.resolve_right (by omega)) h h' hl hl' b1 b2 he
 ·by_cases hi:id=H.length
  ·subst hi;rw[bC]at h';cases h'
   exact⟨aF _,by simp,.inl hg⟩
  ·rw[dF _ _ hi]at h';rw[h]at h';cases h'
 ·exact dL h
 ·rw[blk?_append_left h]at hl;exact hl
theorem R0 (x:Int)(h1 : -9223372036854775808<=x)(h2:x<=9223372036854775807):i64.wrap x=x:=by
 simp only[IntKind.wrap,IntKind.bits,IntKind.signed]
 simp
 omega
def wV (b off len m k:Nat):Value := .slice (some ⟨b,off+k*m,none⟩) (min m (len-k*m)) (min m (len-k*m))
set_option maxRecDepth 100000 in
set_option maxHeartbeats 2000000 in
theorem ZB (F : Fence)(n : Nat)(h7 : F.fn extC)(hro : F.round = none)(hn : 1 <= n)(l n₀ B1 q1 B2 q2 b off len cap m cnt : Nat)(hl : len <= 16777216)(hm : 1 <= m)(hm2 : m <= 16777216)(hcap : len <= cap)(hb1 : B1 < n₀)(hb2 : B2 < n₀)
    (hcnt : ∀ k, k < cnt ↔ k * m < len) (J Jx : List Nat -> World -> Prop) (hJd : ∀ s W k, J s W -> J s (W.drewN k))
    (hY : ∀ pre k W, J pre W -> pre.length < cnt -> YieldAt F (n - 1) Tryz.prog l #[wV b off len m k] W fun e W' =>
      (e = .returned (.bool true) /\ J (pre ++ [k]) W' /\ Below n₀ W W') \/ (e = .returned (.bool false) /\ Jx (pre ++ [k]) W'))
    (W : World) (hp : W.cell? ⟨B1, q1, none⟩ = some (.slice (some ⟨b, off, none⟩) len cap)) (hq : W.cell? ⟨B2, q2, none⟩ = some (.int .i64 m)) (h0 : J [] W) :
    CallsIn F n Tryz.prog extC #[.func (.yield l) #[] #[], .pointer (some ⟨B1, q1, none⟩), .pointer (some ⟨B2, q2, none⟩)] W fun e W' => (∃ v, e = .returned v) /\
      ((∃ ys, ys = List.range cnt /\ J ys W') \/ (∃ pre, True /\ Jx pre W')) := by
  refine callsIn_of_wp Tryz.func285 rfl h7 ?_ hro
  simp only [Tryz.ntmps285, List.size_toArray, List.length_cons, List.length_nil, Nat.reduceAdd, Nat.reduceSub, Array.replicate_succ, Array.replicate_zero, List.push_toArray, List.append_toArray, List.nil_append, List.cons_append]
  gi_wp2
  gi_loopw [4] (fun i wr => ∃ k : Nat, k <= cnt /\ i = .int .i64 ((k * m : Nat) : Int) /\ J (List.range k) wr /\ Below n₀ W wr)
    (fun i _ => len + m - (intOf i).toNat)
  case atStart => exact ⟨0, eJ _, by simp, h0, Below.refl _ _⟩
  case round =>
    obtain ⟨k, hk, rfl, hJs, hnx⟩ := hrel
    have hcp : wr.cell? ⟨B1, q1, none⟩ = some (.slice (some ⟨b, off, none⟩) len cap) := (hnx.cell (p := ⟨B1, q1, none⟩) hb1).trans hp
    have hcq : wr.cell? ⟨B2, q2, none⟩ = some (.int .i64 m) := (hnx.cell (p := ⟨B2, q2, none⟩) hb2).trans hq
    have hkm := hcnt k
    obtain ⟨i, ei⟩ : ∃ i, k * m = i := ⟨_, rfl⟩
    rw [ei] at hkm ⊢
    by_cases hlt : i < len
    · have hle : (i : Int) <= len := by omega
      have hli : (i : Int) < len := by omega
      have hne : ¬ cap = i := by omega
      have hlm : len - i <= 16777216 := by omega
      gi_wp2
      refine wpIn_region_quiet_lit hro (by kernel_rfl) (by kernel_rfl) ?_
      repeat (quiet_step_in (fail))
      refine wpQuietIn_nil ?_
      intro _ hw'
      obtain ⟨nq, hw''⟩ := hw'
      subst hw''
      obtain ⟨e, he⟩ : ∃ e, min m (len - i) = e := ⟨_, rfl⟩
      have hee : (if len - i < m then ((len - i : Nat) : Int) else (m : Int)) = (e : Int) := by
        rw [<- he]; split <;> omega
      have hmin : min (m : Int) ((len - i : Nat) : Int) = (e : Int) := by
        rw [<- he]; omega
      first
        | rw [hee]
        | rw [hmin]
      have he1 : 1 <= e := by omega
      have he2 : i + e <= len := by omega
      have he3 : (i : Int) + e <= cap := by omega
      have he4 : ((i : Int) + e).toNat = i + e := by omega
      have he5 : (i : Int) <= i + e := by omega
      have he6 : i + e - i = e := by omega
      have he7 : i64.wrap ((i : Int) + e) = (i : Int) + e := by
        exact R0 _ (by omega) (by omega)
      have hJ' := hJd _ wr nq hJs
      have hcp' : (wr.drewN nq).cell? ⟨B1, q1, none⟩ = some (.slice (some ⟨b, off, none⟩) len cap) := hcp
      have hcq' : (wr.drewN nq).cell? ⟨B2, q2, none⟩ = some (.int .i64 m) := hcq
      have hnx' : Below n₀ W (wr.drewN nq) := ⟨hnx.os, hnx.tape, hnx.output, hnx.size, hnx.block⟩
      generalize wr.drewN nq = wd at *
      obtain ⟨fn, tmps, assign, body, hy, hR⟩ := hY _ k wd hJ' (by rw [List.length_range]; exact hkm.2 hlt)
      unfold wV at hy
      rw [ei, he] at hy
      gi_wp2
      refine hR.mono ?_
      rintro e0 W3 (⟨rfl, hJ3, hk3⟩ | ⟨rfl, hJx3⟩)
      · have hcq3 : W3.cell? ⟨B2, q2, none⟩ = some (.int .i64 m) := (hk3.cell (p := ⟨B2, q2, none⟩) hb2).trans hcq'
        have hw2 : i64.wrap ((i : Int) + m) = (i : Int) + m := by
          exact R0 _ (by omega) (by omega)
        gi_wp2
        go_roundw
        case rel =>
          refine ⟨k + 1, hkm.2 hlt, ?_, by rw [List.range_succ]; exact hJ3, hnx'.trans hk3⟩
          rw [fA, m8, ei]; simp
        case measure => simp [intOf]; omega
      · gi_wp2
        refine bodyPost_ret (results_none rfl _ _ _) rfl ?_
        exact ⟨⟨_, rfl⟩, .inr ⟨_, trivial, hJx3⟩⟩
    · have hkc : k = cnt := by
        have := hkm.1
        rcases lM k cnt with h | h
        · exact absurd (this h) hlt
        · omega
      subst hkc
      gi_wp2
      go_end0
      exact ⟨⟨_, rfl⟩, .inl ⟨_, rfl, hJs⟩⟩
theorem TJ (W:World)(k:Nat):W.grownBy (W.drewN k) none:=⟨rfl,rfl,rfl,aF _,fun _ _ _=>rfl⟩
theorem TU (F:Fence)(n:Nat)(h7:F.fn extC)(hro:F.round=none)(hn:1<=n)(n₀ B1 q1 B2 q2 b off len cap m cnt:Nat)(hl:len<=16777216)(hm:1<=m)(hm2:m<=16777216)(hcap:len<=cap)(hb1:B1<n₀)(hb2:B2<n₀)
 (hcnt:∀ k,k<cnt ↔ k*m<len) (w:World) (hn₀:n₀<=w.heap.size) (hp:w.cell? ⟨B1,q1,none⟩=some (.slice (some ⟨b,off,none⟩) len cap)) (hq:w.cell? ⟨B2,q2,none⟩=some (.int .i64 m)) :
 SeqStopsK F n Tryz.prog extC #[.pointer (some ⟨B1,q1,none⟩),.pointer (some ⟨B2,q2,none⟩)] (fun k:Nat => #[wV b off len m k]) (Below n₀) (fun ys=>ys=List.range cnt) (fun _=>True) cnt w:=fun l J Jx W hW hJ _ hY h0 =>
 ZB F n h7 hro hn l n₀ B1 q1 B2 q2 b off len cap m cnt hl hm hm2 hcap hb1 hb2 hcnt J Jx (fun s W1 k h=>hJ s W1 _ none h (TJ W1 k) (fun r e=>by cases e)) hY W
  ((hW.cell (p:=⟨B1,q1,none⟩) (dC hb1 hn₀)).trans hp) ((hW.cell (p:=⟨B2,q2,none⟩) (dC hb2 hn₀)).trans hq) h0
theorem aBf:(Tryz.prog.info? 71).map (fun i=>(i.zero,i.size,i.bytes))=some (some (.slice none 0 0),1,24):=by kernel_rfl
set_option maxRecDepth 100000 in
set_option maxHeartbeats 2000000 in
theorem PR (F:Fence)(n:Nat)(h6:F.fn extA)(h7:F.fn extC)(hro:F.round=none)(hn:3<=n)(B1 q1 B2 q2 b off len cap m cnt:Nat)(hl:len<=16777216)(hm:1<=m)(hm2:m<=16777216)(hcap:len<=cap)
  (hcnt:∀ k,k<cnt ↔ k*m<len) (hc2:cnt<=16777216) (w:World) (hb1:B1<w.heap.size) (hb2:B2<w.heap.size) (hp:w.cell? ⟨B1,q1,none⟩=some (.slice (some ⟨b,off,none⟩) len cap)) (hq:w.cell? ⟨B2,q2,none⟩=some (.int .i64 m)) :
  CallsIn F n Tryz.prog extA #[.slice none 0 0,.func (.func extC) #[] #[.pointer (some ⟨B1,q1,none⟩),.pointer (some ⟨B2,q2,none⟩)]] w fun e W'=>∃ v,e = .returned v /\
   W'.ownsRow w.heap.size 71 1 v cnt ((List.range cnt).map (wV b off len m))/\Below w.heap.size w W':=by
 have h1:1<=n:=by omega
 obtain⟨i0,hi,hz0,hz1,hz2⟩:=info_parts aBf
 refine callsIn_of_wp_marks Tryz.func284 rfl h6 ?_ hro
 simp only[Tryz.ntmps284,List.size_toArray,List.length_cons,List.length_nil,Nat.reduceAdd,Nat.reduceSub,Array.replicate_succ,Array.replicate_zero,List.push_toArray,List.append_toArray,List.nil_append,List.cons_append]
 gi_wp2
 have bO:=Boxed.new w 301 (.slice none 0 0)
 have hB0:Below w.heap.size w (w.alloc (.cells #[.slice none 0 0] 301)):=(Below.refl _ w).alloc (aF _) _
 refine wpIn_rangeFunc_ownG hro h1 (gf:=extC) (lb := #[.pointer (some ⟨B1,q1,none⟩),.pointer (some ⟨B2,q2,none⟩)]) rfl h7 (enters_of Tryz.func285 (by kernel_rfl) rfl)
  (TU F (n-1) h7 hro (by omega) w.heap.size B1 q1 B2 q2 b off len cap m cnt hl hm hm2 hcap hb1 hb2 hcnt _ (by simp) ((hB0.cell (p:=⟨B1,q1,none⟩) hb1).trans hp) ((hB0.cell (p:=⟨B2,q2,none⟩) hb2).trans hq)) belowK_t (belowK_b (by simp)) (Below.refl _ _) (fun _=>rfl)
  (fun pre W=>(∃ v,Boxed W w.heap.size 301 v/\W.ownsRow w.heap.size 71 1 v pre.length (pre.map (wV b off len m))/\True)/\Below w.heap.size w W)
  (fun _ _ _=>False)
  (OwnFrom.and (Own.from (holdsRow_own w.heap.size w.heap.size 301 71 1 (fun pre:List Nat=>pre.length) (fun pre=>pre.map (wV b off len m)) (fun _ _=>True)) _) (ownFrom_below (aF _) (by simp)))
  (fun _ _ _ _ _ hs _ _=>hs)
  ⟨⟨_,bO,World.ownsRow_nil _ _ _ _,trivial⟩,hB0⟩
  (fun x=>{ tmps := #[.slice none 0 0,.func (.func extC) #[] #[.pointer (some ⟨B1,q1,none⟩),.pointer (some ⟨B2,q2,none⟩)],.pointer (some ⟨w.heap.size,0,none⟩),undef,.slice none 0 0,wV b off len m x,.func (.func extC) #[] #[.pointer (some ⟨B1,q1,none⟩),.pointer (some ⟨B2,q2,none⟩)],wV b off len m x,undef,undef,undef,undef,undef],defers:=[] }) ?assign ?body ?done ?stop
 case assign =>
  intro l x W K hK
  gi_wp2
  exact hK
 case body =>
  rintro l pre x W ⟨⟨v,hv,hrow,_⟩,hB⟩ hlt
  have hc:=hv.cell
  have hpl:pre.length+1<=16777216:=by omega
  have hml:16777216<=maxLen:=by unfold maxLen;omega
  obtain⟨ad,pe,hpe⟩:∃ ad pe,wV b off len m x = .slice (some ad) pe pe:=⟨_,_,rfl⟩
  rw[hpe]
  gi_wp2_with (gi_at_builtin;refine wpListIn_append_own _ rfl _ _ 301 rfl w.heap.size 71 i0 (.slice none 0 0) 1 24 Tryz.underlying301 hi hz0 hz1 hz2 rfl (by decide) _ _ _ rfl (hrow.alloc _) ⟨W.heap.size,0,none⟩ 1 1 [.slice (some ad) pe pe] rfl rfl (cell_one_new _ _ _) (by simp[Value.oneCell']) (by omega) (by omega) (by have:=hB.size;simp;omega) ?_;intro v' w1 hown' hgrow _;obtain⟨g',cap',rfl⟩:=ownsRow_succ hown';obtain⟨hv1,hv2,hr2,hk2,hb2⟩:=hv.appended (by decide) hrow hB.size (aF _) hown' hgrow;have hc1:=hv1.cell;have hf1:=hv1.frozen)
  exact⟨hk2.from _,hb2,⟨_,hv2,by simpa [hpe] using hr2,trivial⟩,hB.trans hb2⟩
 case done =>
  rintro D ys W hD rfl ⟨⟨v,hv,hrow,_⟩,hB⟩ hK
  have hc:=hv.cell
  gi_wp2
  refine⟨by simp,.inl ⟨_,_,rfl,run_takeDeferred hK,?_⟩⟩
  refine⟨_,results_tmp rfl _ _ _,v,rfl,?_,hB.trans (belowK_b (w:=w) (aF _) W D _ _ (by simp at hD;omega) hK rfl rfl)⟩
  have:=ownsRow_putObj hrow (.deferred none) hK rfl
  simpa using this
 case stop =>
  rintro D c pre W _ _ h _
  exact h.elim
theorem aDr (len m:Nat)(hm:1<=m)(k:Nat):k<(len+m-1) / m ↔ k*m<len:=by
 rw[Nat.lt_iff_add_one_le,Nat.le_div_iff_mul_le (by omega),fA,m8]
 omega
section
open Go.Lib
theorem aBk {x c:UInt8}(l:List UInt8)(h:x≠c):index (x::l) [c]=if index l [c] == -1 then -1 else index l [c]+1:=by
 have hp:([c]:List UInt8).isPrefixOf (x::l)=false:=by simp[List.isPrefixOf,Ne.symm h]
 rw[index,hp];simp
theorem aHt {c:UInt8}(hc:c.toNat=32):∀ l:List UInt8,splitK [c] 0 (count l [c]) l=pP l
 | []=>by rw[count_miss (by simp[index])];rfl
 | x::l=>by
   have ih:=aHt hc l
   by_cases h:x=c
   ·subst h
    have hix:index (x::l) [x]=0:=by rw[index];simp[List.isPrefixOf]
    rw[count_cons_eq,Nat.add_comm,splitK,hix]
    unfold pP
    rw[hc]
    show []::splitK [x] 0 (count l [x]) l=_
    rw[ih]
   ·have hx:Nat.beq x.toNat 32=false:=by
     cases hb:Nat.beq x.toNat 32 with
     | false=>rfl
     | true =>
       have:=Nat.eq_of_beq_eq_true hb
       exact absurd (UInt8.toNat_inj.1 (this.trans hc.symm)) h
    rw[count_cons_ne x c l h]
    unfold pP
    rw[hx]
    show _=aE1 x (pP l)
    rw[<- ih]
    cases hk:count l [c]with
    | zero=>rfl
    | succ k =>
      obtain⟨i,hi⟩:=index_of_count (s:=l) (old:=[c]) (by omega)
      have hi2:index (x::l) [c]=((i+1:Nat):Int):=by rw[aBk l h,aC (fun e=>by have:=beq_iff_eq.1 e;omega),hi];omega
      rw[splitK,splitK,aC (fun e=>by have:=beq_iff_eq.1 e;omega),aC (fun e=>by have:=beq_iff_eq.1 e;omega),hi,hi2]
      rfl
theorem M4:∀ {l:List ByteArray} {m:List (List UInt8)},l.map (·.data.toList)=m->l=m.map fun x=>⟨⟨x⟩⟩
 | [],m,h=>by cases h;rfl
 | s::l,m,h=>by
   cases h
   rw[List.map_cons,List.map_cons,<- M4 (l:=l) rfl]
theorem aHJ {sep:ByteArray}{c:UInt8}(hs:sep.data.toList=[c])(hc:c.toNat=32)(s:ByteArray):splitB sep 0 (countB s sep) s=(pP s.data.toList).map fun x=>⟨⟨x⟩⟩:=by
 refine M4 ?_
 rw[splitB_data,hs]
 have:countB s sep=count s.data.toList [c]:=by rw[<- hs]
 rw[this,aHt hc]
end
structure LibVars (w:World):Prop where
 pow:Lib.TabIs Tryz.prog w "internal/strconv.uint64pow10" .u64 Lib.pow10Tab
 max:∃ m,w.cell? ⟨0,0,none⟩=some (.int .i64 m)
 rng:∃ ev,w.cell? ⟨2,0,none⟩=some ev/\(ev = .nilIface\/∃ te pe,ev = .iface te pe)
 syn:∃ ev,w.cell? ⟨1,0,none⟩=some ev/\(ev = .nilIface\/∃ te pe,ev = .iface te pe)
def BI:Nat:=Nat.max 3 (Nat.max 0 (Nat.max 2 1))+1
theorem aBA:0<BI:=by decide
theorem aBR:3<BI:=by decide
theorem aB7:2<BI:=by decide
theorem aBd:1<BI:=by decide
theorem LibVars.top {w:World}(h:LibVars w):BI<=w.heap.size:=by
 obtain⟨m,h1⟩:=h.max
 obtain⟨ev,h2,_⟩:=h.syn
 obtain⟨ev2,h4,_⟩:=h.rng
 have h4:2<w.heap.size:=Lib.lt_of_cell h4
 have h1:0<w.heap.size:=Lib.lt_of_cell h1
 have h2:1<w.heap.size:=Lib.lt_of_cell h2
 have h3:3<w.heap.size:=by
  have hp:=h.pow
  unfold Lib.TabIs World.var? at hp
  rw[show Program.globalNamed Tryz.prog "internal/strconv.uint64pow10" = some 3 by kernel_rfl]at hp
  simp only[Option.bind_some]at hp
  rcases lM 3 w.heap.size with h|h
  ·exact h
  ·rw[Array.getElem?_eq_none h]at hp;cases hp
 have:BI=0+1\/BI=2+1\/BI=1+1\/BI=3+1:=by decide
 omega
theorem LY {base:Nat}{w0:World}{ρ:Ren}{H:aD}{w:World}(S:Sim base w0 All ρ H w){g:Nat}(hb:g<base){v:Value}(h:w0.cell? ⟨g,0,none⟩=some v):w.cell? ⟨g,0,none⟩=some v:=by
 unfold World.cell? at h⊢
 simp only at h⊢
 rw[S.old g hb]
 exact h
theorem LibVars.now {base:Nat}{w0:World}{ρ:Ren}{H:aD}{w:World}(h:LibVars w0)(S:Sim base w0 All ρ H w)(hb:BI<=base):LibVars w:=by
 obtain⟨m,h1⟩:=h.max
 obtain⟨ev,h2,h3⟩:=h.syn
 obtain⟨ev2,h4,h5⟩:=h.rng
 have hp:Lib.TabIs Tryz.prog w "internal/strconv.uint64pow10" .u64 Lib.pow10Tab:=by
  have hp:=h.pow
  unfold Lib.TabIs World.var? at hp⊢
  rw[show Program.globalNamed Tryz.prog "internal/strconv.uint64pow10" = some 3 by kernel_rfl]at hp⊢
  simp only[Option.bind_some]at hp⊢
  rw[S.old _ (dC aBR hb)]
  exact hp
 exact⟨hp,⟨m,LY S (dC aBA hb) h1⟩,⟨ev2,LY S (dC aB7 hb) h4,h5⟩,ev,LY S (dC aBd hb) h2,h3⟩
theorem Step.err {base:Nat}{w0:World}{fl:Nat}{ρ:Ren}{H:aD}{w w':World}(S:Sim base w0 All ρ H w)(hfr:ρ H.length=none)(hbH:base<=H.length)
 {N:Nat} {cc:Array Value} {e:TypeId} (hw:Below w.heap.size w w') (hg:w.heap.size<=N) (hgb:w'.heap[N]? = some (.cells cc e (0,0))) (v:Int) (E:TypeId) :
 ∃ v' ρ',Ending.returned (.tuple #[.int .i64 v,.iface E (.pointer (some ⟨N,0,none⟩))]) = .returned v'/\VRel ρ' (.tuple #[.int .i64 v,.iface E (.pointer (some ⟨H.length,0,none⟩))]) v' /\
   Step base w0 All All fl ρ H w ρ' (H++[⟨[],0,false,true⟩]) w':=by
 refine⟨_,WH ρ H.length ⟨N,0,cc.size,0,0,false⟩,rfl,?_,Step.far S hfr hbH [] cc e (0,0) 0 false N hw hg hgb (by simp) (fun h=>by cases h) (.inl rfl) (fun i v h=>by simp at h)⟩
 refine .tuple _ _ rfl fun i a b ha hb => ?_
 match i,ha,hb with
 | 0,ha,hb=>cases ha;cases hb;exact .int _ _
 | 1,ha,hb =>
   cases ha;cases hb
   exact .iface _ (VRel.ptr (b:=H.length) (o:=0) (bC _ _ _))
 | i+2,ha,hb=>simp at ha
theorem I3 (w:World)(k:Nat)(os:Array Obj):Below w.heap.size w (grow (w.drewN k) os) where
 os:=rfl
 tape:=rfl
 output:=rfl
 size:=by simp[grow,World.drewN]
 block:=fun i hi=>by
  show(w.heap++os)[i]? = w.heap[i]?
  rw[Array.getElem?_append_left hi]
theorem NT {base:Nat}{w0:World}{ρ:Ren}{H:aD}{w:World}(S:Sim base w0 All ρ H w){b o:Nat}{L:Loc}(hL:ρ b=some L) :
 ∀ {n:Nat} {l:List ByteArray},QU H b o n=some l->l.length=n/\∀ (j:Nat) x,l[j]? = some x->w.cell? ⟨L.blk,L.off+o+j,none⟩=some (.string x)
 | 0,l,h=>by
   simp only[QU,aX]at h
   subst h
   exact⟨rfl,fun j x hx=>by simp at hx⟩
 | n+1,l,h=>by
   simp only[QU]at h
   split at h
   ·rename_i l1 s h1 h2
    simp only[aX]at h
    subst h
    obtain⟨e1,e2⟩:=NT S hL h1
    refine⟨by simp[e1],fun j x hx => ?_⟩
    rcases lM j l1.length with hj|hj
    ·rw[dL hj]at hx;exact e2 j x hx
    ·rw[o5 hj]at hx
     have hj2:j-l1.length=0:=by
      rcases Nat.eq_zero_or_pos (j-l1.length)with h|h
      ·exact h
      ·rw[qX (by simp;omega)]at hx;cases hx
     rw[hj2]at hx
     simp only[List.getElem?_cons_zero,aX]at hx
     subst hx
     obtain⟨s',hs1,hs2⟩:=BL S trivial hL h2
     cases hs2
     have:j=n:=by omega
     subst this
     rw[show L.off+o+j=L.off+(o+j) by omega]
     exact hs1
   ·cases h
theorem XM {u:Nat}(h:u<1000):Lib.decDigits u=aDn u:=by
 unfold aDn
 split
 ·rename_i h1
  have h1:u<10:=by simpa [Nat.blt_eq] using h1
  rw[Lib.decDigits,dif_pos h1]
 ·rename_i h1
  have h1 : ¬ u<10:=fun h=>by rw[show Nat.blt u 10=true by simpa [Nat.blt_eq] using h]at h1;cases h1
  split
  ·rename_i h2
   have h2:u<100:=by simpa [Nat.blt_eq] using h2
   rw[Lib.decDigits,dif_neg h1,Lib.decDigits,dif_pos (by omega)]
   rfl
  ·rename_i h2
   have h2 : ¬ u<100:=fun h=>by rw[show Nat.blt u 100=true by simpa [Nat.blt_eq] using h]at h2;cases h2
   rw[Lib.decDigits,dif_neg h1,Lib.decDigits,dif_neg (by omega),Lib.decDigits,dif_pos (by omega),Nat.div_div_eq_div_mul]
   rfl
theorem S0:∀ {n:Int},BA n=true->Lib.itoa n=X1 n /\ -9223372036854775808<=n/\n<=9223372036854775807
 | .ofNat u,h=>by
   have h:u<1000:=by simpa [BA,Nat.blt_eq] using h
   refine⟨?_,by rw[show Int.ofNat u=(u:Int)from rfl];omega,by rw[show Int.ofNat u=(u:Int)from rfl];omega⟩
   unfold Lib.itoa
   rw[aC (by rw[show Int.ofNat u=(u:Int)from rfl];omega)]
   exact XM h
 | .negSucc u,h=>by
   have h:u<999:=by simpa [BA,Nat.blt_eq] using h
   refine⟨?_,by omega,by omega⟩
   unfold Lib.itoa
   rw[aA (by omega)]
   show 45::Lib.decDigits (u+1)=_
   rw[XM (by omega)]
   rfl
theorem rH (P:Program):CallerKept (lA P):=by
 intro fl f args H v H' h
 simp only[lA]at h
 split at h
 ·split at h
  ·split at h
   ·simp only[QF]at h
    split at h
    ·split at h
     ·cases h;exact Kept.push _ _ _
     ·cases h
    ·cases h
   ·cases h
  ·cases h
 ·split at h
  ·cases h;exact Kept.push _ _ _
  ·cases h
 ·split at h
  ·cases h;exact Kept.push _ _ _
  ·cases h
 ·split at h
  ·cases h;exact Kept.refl _ _
  ·cases h
 ·split at h
  ·unfold aFX at h
   split at h
   ·cases h;exact Kept.refl _ _
   ·cases h
   ·cases h;exact Kept.push _ _ _
  ·cases h
 ·split at h
  ·cases h;exact Kept.refl _ _
  ·cases h
 ·split at h
  ·split at h
   ·split at h
    ·cases h;exact Kept.refl _ _
    ·cases h
   ·cases h
  ·cases h
 ·cases h
theorem aAE (P:Program):CallerKept (TB P):=by
 intro fl f args H v H' h
 simp only[TB]at h
 split at h
 ·split at h
  ·cases h;exact Kept.refl _ _
  ·cases h
 ·split at h
  ·split at h
   ·cases h;exact Kept.refl _ _
   ·cases h;exact Kept.push _ _ _
  ·cases h
 ·split at h
  ·cases h;exact Kept.refl _ _
  ·split at h
   ·cases h;exact Kept.push _ _ _
   ·cases h
 ·cases h
theorem Z7 (P:Program):CallerKept (IF P):=by
 intro fl f args H v H' h
 simp only[IF]at h
 split at h
 ·rename_i r hr
  cases h
  exact rH P _ _ _ _ _ _ hr
 ·exact aAE P _ _ _ _ _ _ h
theorem aAM (P:Program):CallerKept (zA P):=by
 intro fl f args H v H' h
 simp only[zA]at h
 split at h
 ·split at h
  ·cases h;exact Kept.refl _ _
  ·cases h
 ·exact Z7 P _ _ _ _ _ _ h
theorem ZM {ρ:Ren}{b o:Nat}{L:Loc}(h:ρ b=some L)(len m k:Nat) :
 VRel ρ (.slice (some ⟨b,o+k*m,none⟩) (min m (len-k*m)) (min m (len-k*m))) (wV L.blk (L.off+o) len m k) :=
 .slice h ⟨aF _,.inl ⟨by omega,rfl⟩⟩
theorem aDO:∃ i z,Tryz.prog.info? 3=some i/\i.zero=some z/\z.cells.toList=[.int .i64 0]/\i.size=1/\i.bytes=8:=by
 have h1:aTy Tryz.prog 62 = .slice 3 1 8:=by kernel_rfl
 have h2:cS Tryz.prog 3=some [.int .i64 0]:=by kernel_rfl
 obtain⟨i,z,a1,a2,a3,_⟩:=jQ h2
 obtain⟨_,j,_,_,b1,b2,b3,_⟩:=fR h1
 rw[a1]at b1
 cases b1
 exact⟨i,z,a1,a2,a3.symm,b2,b3⟩
theorem FA {base:Nat}{w0:World}(hL:LibVars w0)(hb:BI<=base):CallerSound base w0 Go.Proofs.Tryz.prog (lA Go.Proofs.Tryz.prog):=by
 intro fl f args cargs ρ H H' w v S hbf hfl hfr hargs h
 simp only[lA]at h
 split at h
 case h_8=>cases h
 case h_7 =>
  rename_i b o len c sep hal
  split at h
  case isFalse=>cases h
  rename_i hfg
  obtain⟨rfl,h1,h2⟩:=hfg
  rw[hal]at hargs
  obtain⟨y,ys,e1,hv1,ht⟩:=hargs.inv
  obtain⟨z,zs,rfl,hv2,ht2⟩:=ht.inv
  obtain rfl:=ht2.inv_nil
  cases hv2
  have hcargs:cargs = #[y,.string sep]:=by cases cargs;simp at e1;rw[e1]
  subst hcargs
  split at h
  case h_2=>cases h
  rename_i l hl
  split at h
  case isFalse=>cases h
  rename_i hbd
  cases h
  cases hv1
  case empty=>omega
  rename_i o' c' L hL hfit
  obtain⟨hlc,hfit⟩:=hfit
  have ho':o'=L.off+o:=by rcases hfit with h|h|h <;> omega
  have hcc:len<=c':=by rcases hfit with h|h|h <;> omega
  subst ho'
  obtain⟨hl1,hl2⟩:=NT S hL hl
  subst hl1
  refine(Tryz.strings_Join L.blk (L.off+o) c' l sep w hl2 (S.dom _ _ hL).1 h2 hcc hbd).mono ?_
  rintro e w' ⟨rfl,hbel⟩
  exact⟨_,_,rfl,.string _,Step.behind S hbel⟩
 case h_6 =>
  rename_i n hal
  split at h
  case isFalse=>cases h
  rename_i hfg
  obtain⟨rfl,h0⟩:=hfg
  cases h
  rw[hal]at hargs
  obtain⟨y,ys,e1,hv1,ht⟩:=hargs.inv
  obtain rfl:=ht.inv_nil
  cases hv1
  have hcargs:cargs = #[.int .i64 n]:=by cases cargs;simp at e1;rw[e1]
  subst hcargs
  obtain⟨g0,g1,g2⟩:=S0 h0
  have hTw:=(hL.now S hb).pow
  refine(Tryz.strconv_Itoa n g1 g2 w hTw).mono ?_
  rintro e w' ⟨rfl,k,os,rfl⟩
  exact⟨_,_,rfl,by rw[show(⟨(Lib.itoa n).toArray⟩:ByteArray)=⟨⟨X1 n⟩⟩ by rw[g0]];exact .string _,Step.behind S (I3 w k os)⟩
 case h_5 =>
  rename_i s ia ib hal
  split at h
  case isFalse=>cases h
  rename_i hfg
  obtain⟨rfl,h0,rfl,rfl⟩:=hfg
  rw[hal]at hargs
  obtain⟨y,ys,e1,hv1,ht⟩:=hargs.inv
  obtain⟨z,zs,rfl,hv2,ht2⟩:=ht.inv
  obtain⟨z',zs',rfl,hv3,ht3⟩:=ht2.inv
  obtain rfl:=ht3.inv_nil
  cases hv1
  cases hv2
  cases hv3
  have hcargs:cargs = #[.string s,.int .i64 10,.int .i64 64]:=by cases cargs;simp at e1;rw[e1]
  subst hcargs
  have hLw:=hL.now S hb
  cases hx:Lib.parseIntB 64 s.data.toList with
  | ok v =>
    rw[hx]at h
    cases h
    refine(Tryz.strconv_ParseInt_10_at64_ok s (by omega) v hx w).mono ?_
    rintro e w' ⟨rfl,hw⟩
    refine⟨_,ρ,rfl,?_,Step.behind S ?_⟩
    ·refine .tuple _ _ rfl fun i a b ha hb => ?_
     match i,ha,hb with
     | 0,ha,hb=>cases ha;cases hb;exact .int _ _
     | 1,ha,hb=>cases ha;cases hb;exact .nilIface
     | i+2,ha,hb=>simp at ha
    ·rcases hw with rfl|⟨t,rfl⟩
     ·exact Below.refl _ _
     ·exact Lib.bytesWorld_below _ _ _
  | range=>rw[hx]at h;cases h
  | _ =>
    rw[hx]at h
    cases h
    have hn:ρ H.length=none:=hfr _ (aF _) (by simp)
    obtain⟨ev,c1,c2⟩:=hLw.syn
    refine(Tryz.strconv_ParseInt_10_at64_syntax s h0 (fun v=>by rw[hx];exact fun h=>by cases h) (by rw[hx];exact fun h=>by cases h) ev w c1 c2).mono ?_
    rintro e w' ⟨N,rfl,k2,k3,k4⟩
    exact Step.err S hn (by omega) k4 k2 k3 _ _
 case h_4 =>
  rename_i s o n hal
  split at h
  case isFalse=>cases h
  rename_i hfg
  obtain⟨rfl,h0,h1,h2⟩:=hfg
  cases h
  rw[hal]at hargs
  obtain⟨y,ys,e1,hv1,ht⟩:=hargs.inv
  obtain⟨z,zs,rfl,hv2,ht2⟩:=ht.inv
  obtain⟨z',zs',rfl,hv3,ht3⟩:=ht2.inv
  obtain rfl:=ht3.inv_nil
  cases hv1
  cases hv2
  cases hv3
  have hcargs:cargs = #[.string s,.string o,.string n]:=by cases cargs;simp at e1;rw[e1]
  subst hcargs
  obtain⟨m,hm⟩:=(hL.now S hb).max
  have hc:=Lib.countB_le o h2 s.size s (aF _)
  have hc2:Lib.countB s o*n.size<=1048576*1048576:=Nat.mul_le_mul (by omega) h1
  refine(Tryz.strings_ReplaceAll s o n m w (by omega) hm h2 (by omega)).mono ?_
  rintro e w' ⟨rfl,hw⟩
  exact⟨_,ρ,rfl,.string _,Step.behind S hw⟩
 case h_3 =>
  rename_i s sep hal
  split at h
  case isFalse=>cases h
  rename_i hfg
  obtain⟨rfl,h0,h1⟩:=hfg
  cases h
  rw[hal]at hargs
  obtain⟨y,ys,e1,hv1,ht⟩:=hargs.inv
  obtain⟨z,zs,rfl,hv2,ht2⟩:=ht.inv
  obtain rfl:=ht2.inv_nil
  cases hv1
  cases hv2
  have hcargs:cargs = #[.string s,.string sep]:=by cases cargs;simp at e1;rw[e1]
  subst hcargs
  obtain⟨m,hm⟩:=(hL.now S hb).max
  obtain⟨c,hsep,hc⟩:∃ c,sep.data.toList=[c]/\c.toNat=32:=by
   unfold AB at h1
   split at h1
   ·exact⟨_,‹_›,Nat.eq_of_beq_eq_true h1⟩
   ·cases h1
  have hs1:sep.size=1:=by rw[Lib.size_eq,hsep];rfl
  have hn:ρ H.length=none:=hfr _ (aF _) (by simp)
  have hsp:=aHJ hsep hc s
  refine(Tryz.strings_Split s sep m w h0 hm (by omega)).mono ?_
  rintro e w' ⟨rfl,rfl⟩
  have hlen:(pP s.data.toList).length=Lib.countB s sep+1:=by
   have:=Lib.splitB_all sep (by omega) 0 _ s rfl
   rw[hsp,e8]at this
   exact this
  have hcell:(Lib.splitB sep 0 (Lib.countB s sep) s).map Value.string=(pP s.data.toList).map OW:=by
   rw[hsp,List.map_map]
   rfl
  rw[<- hlen,hcell]
  have hgb:(w.alloc (.cells ((pP s.data.toList).map OW).toArray 9)).heap[w.heap.size]? = some (.cells ((pP s.data.toList).map OW).toArray 9 (0,0)):=by
   show(w.heap.push _)[w.heap.size]? = _
   rw[Array.getElem?_push,aA rfl]
  have hst:=Step.far (A:=All) (W:=All) (fl:=fl) S hn (by omega) ((pP s.data.toList).map OW) ((pP s.data.toList).map OW).toArray 9 (0,0) 1 false w.heap.size
   ((Below.refl _ _).alloc (aF _) _) (aF _) hgb (by simp) (fun h=>by cases h) (.inl rfl) (fun i v h=>⟨v,by simpa using h,by
     rw[b8]at h
     cases hx:(pP s.data.toList)[i]? with
     | none=>rw[hx]at h;cases h
     | some x=>rw[hx]at h;cases h;exact .string _⟩)
  refine⟨_,_,rfl,?_,hst⟩
  refine VRel.slice (b:=H.length) (o:=0) (bC _ _ _) ⟨aF _,.inl ⟨rfl,?_⟩⟩
  simp
 case h_2 =>
  rename_i n hal
  split at h
  case isFalse=>cases h
  rename_i hfg
  obtain⟨rfl,h0,h1⟩:=hfg
  cases h
  rw[hal]at hargs
  obtain⟨y,ys,e1,hv1,ht⟩:=hargs.inv
  obtain⟨z,zs,rfl,hv2,ht2⟩:=ht.inv
  obtain rfl:=ht2.inv_nil
  cases hv1
  cases hv2
  have hcargs:cargs = #[.slice none 0 0,.int .i64 n]:=by cases cargs;simp at e1;rw[e1]
  subst hcargs
  obtain⟨m,rfl⟩:∃ m:Nat,n=m:=⟨n.toNat,by omega⟩
  have hn:ρ H.length=none:=hfr _ (aF _) (by simp)
  obtain⟨i0,z,i1,i2,i3,i4,i5⟩:=aDO
  have hz1:z.cells.size=1:=by rw[<- xE,i3];rfl
  have hge:=grownCap_ge w (0+m) 0 3
  refine(Any8.slices_Grow_grow (P:=Tryz.prog) Tryz.growI i0 z i1 i2 (by omega) none 0 0 m [] w (aF _) (by omega) (by rw[i5];omega) (by omega) (by simp) (fun _=>rfl) (fun a h=>by cases h)).mono ?_
  rintro e w' ⟨rfl,rfl⟩
  have hst:=Step.far (A:=All) (W:=All) (fl:=fl) S hn (by omega) [] (([]:List Value).toArray++Builtin.zeroCells z.cells (0+m-0)++Builtin.zeroCells z.cells (grownCap w (0+m) 0 3-(0+m))) 3 (0,0) 1 false w.heap.size
   (w':=w.drew.alloc (.cells (([]:List Value).toArray++Builtin.zeroCells z.cells (0+m-0)++Builtin.zeroCells z.cells (grownCap w (0+m) 0 3-(0+m))) 3))
   ⟨rfl,rfl,rfl,by show w.heap.size<=(w.heap.push _).size;rw[Array.size_push];omega,fun i hi=>by
    show(w.heap.push _)[i]? = w.heap[i]?
    rw[Array.getElem?_push,aC (by omega)]⟩ (aF _) (by
    show(w.heap.push _)[w.heap.size]? = _
    rw[Array.getElem?_push,aA rfl]) (eJ _) (fun h=>by cases h) (.inl rfl) (fun i v h=>by simp at h)
  refine⟨_,_,rfl,?_,hst⟩
  refine VRel.slice (b:=H.length) (o:=0) (bC _ _ _) ⟨aF _,.inr (.inl ⟨rfl,rfl,rfl,eJ _,?_⟩)⟩
  simp only[Array.size_append,List.size_toArray,size_zeroCells,hz1,List.length_nil]
  show 0+(grownCap w (0+m) 0 3-0)*1<=0+(0+m-0)*1+(grownCap w (0+m) 0 3-(0+m))*1
  omega
 rename_i g first cp hal
 split at h
 case h_2=>cases h
 rename_i p q hfi hcp
 split at h
 case isFalse=>cases h
 rename_i hfg
 obtain⟨rfl,rfl⟩:=hfg
 simp only[QF]at h
 split at h
 case h_2=>cases h
 rename_i b o len c m hs hn
 split at h
 case isFalse=>cases h
 rename_i hbd
 obtain⟨hl1,hl2,hm1,hm2⟩:=hbd
 cases h
 rw[hal]at hargs
 obtain⟨y,ys,e1,hv1,ht⟩:=hargs.inv
 obtain⟨z,zs,rfl,hv2,ht2⟩:=ht.inv
 obtain rfl:=ht2.inv_nil
 obtain rfl:y = .slice none 0 0:=by cases hv1;rfl
 obtain⟨xs',ys',rfl,hf1,hf2⟩:=hv2.func_inv
 rw[hfi]at hf1
 have hx:xs' = #[]:=by
  have:=hf1.inv_nil
  cases xs';simp at this;rw[this]
 subst hx
 rw[hcp]at hf2
 obtain⟨p',ps,e2,hp1,hp2⟩:=hf2.inv
 obtain⟨q',qs,rfl,hq1,hq2⟩:=hp2.inv
 obtain rfl:=hq2.inv_nil
 have hys:ys' = #[p',q']:=by cases ys';simp at e2;rw[e2]
 subst hys
 have hcargs:cargs = #[.slice none 0 0,.func (.func extC) #[] #[p',q']]:=by cases cargs;simp at e1;rw[e1]
 subst hcargs
 cases hp1
 rename_i b1 o1 L1 hL1
 cases hq1
 rename_i b2 o2 L2 hL2
 obtain⟨s',hs1,hs2⟩:=BL S trivial hL1 hs
 obtain⟨n',hn1,hn2⟩:=BL S trivial hL2 hn
 cases hn2
 cases hs2
 case empty=>omega
 rename_i o' c' L hL hfit
 obtain⟨hlc,hfit⟩:=hfit
 have ho':o'=L.off+o:=by rcases hfit with h|h|h <;> omega
 have hcc:len<=c':=by rcases hfit with h|h|h <;> omega
 subst ho'
 have hL1d:=(S.dom _ _ hL1).1
 have hL2d:=(S.dom _ _ hL2).1
 generalize hcnt:(len+m-1) / m=cnt
 have hci:∀ k,k<cnt ↔ k*m<len:=fun k=>by rw[<- hcnt];exact aDr len m hm1 k
 have hcn2:cnt<=16777216:=by
  rcases lM 16777216 cnt with h|h
  ·have:=(hci 16777216).1 h
   have:=Nat.mul_le_mul_left 16777216 hm1
   omega
  ·exact h
 have hcn1:1<=cnt:=(hci 0).2 (by omega)
 refine(Go.callsIn_wide (n:=3)).1 ((PR Fence.wide 3 trivial trivial rfl (by omega) L1.blk (L1.off+o1) L2.blk (L2.off+o2) L.blk (L.off+o) len c' m cnt hl2 hm1 hm2 hcc hci hcn2 w hL1d hL2d hs1 hn1).mono ?_)
 rintro e w' ⟨v',rfl,hrow,hbel⟩
 obtain⟨_,hrow⟩:=hrow
 rcases hrow with⟨_,h0⟩|⟨gb,cap,cur,rfl,hgb,hcell,hr1,hr2,hr3,hr4⟩
 ·omega
 have hcl:(uM b o len m).length=cnt:=by simp[uM,hcnt]
 refine⟨_,_,rfl,?_,Step.far S (hfr _ (aF _) (by simp)) (bY hbf hfl) (uM b o len m) cur _ _ 1 false gb hbel hgb hcell (by rw[hcl,hr3];omega) (fun e=>by cases e) (.inl rfl) ?_⟩
 ·refine .slice (bC _ _ _) ⟨aF _,.inr (.inl ⟨rfl,rfl,?_,hr1,?_⟩)⟩
  ·show 0+cnt*1=(uM b o len m).length
   rw[hcl];omega
  ·show(uM b o len m).length+(cap-cnt)*1<=cur.size
   rw[hcl,hr3];omega
 ·intro i x hx
  have hi:i<cnt:=by rw[<- hcl];exact(List.getElem?_eq_some_iff.1 hx).1
  have hxe:x = .slice (some ⟨b,o+i*m,none⟩) (min m (len-i*m)) (min m (len-i*m)):=by
   simp only[uM,hcnt,b8,List.getElem?_range hi,Option.map_some,aX]at hx
   exact hx.symm
  subst hxe
  refine⟨_,?_,ZM hL len m i⟩
  have h1:(cur.toList.take (cnt*1))[i]? = some (wV L.blk (L.off+o) len m i):=by
   rw[hr4,b8,List.getElem?_range hi];rfl
  rw[List.getElem?_take_of_lt (by omega)]at h1
  simpa using h1
theorem Q4 {s:ByteArray}{v:Int}(h:atoiS s=(v,true)):Lib.atoiAll s.data.toList = .ok v:=by
 unfold atoiS at h
 split at h <;> cases h
 assumption
theorem Z3 {s:ByteArray}{v:Int}(h:atoiS s=(v,false)):(Lib.atoiAll s.data.toList = .range/\v=Lib.atoiSat s.data.toList)\/((∀ u,Lib.atoiAll s.data.toList ≠ .ok u)/\Lib.atoiAll s.data.toList ≠ .range/\v=0):=by
 unfold atoiS at h
 split at h <;> cases h
 ·exact .inl ⟨by assumption,rfl⟩
 ·rename_i h1 h2
  exact .inr ⟨h1,h2,rfl⟩
theorem UK {base:Nat}{w0:World}(hL:LibVars w0)(hb:BI<=base):CallerSound base w0 Go.Proofs.Tryz.prog (TB Go.Proofs.Tryz.prog):=by
 intro fl f args cargs ρ H H' w v S hbf hfl hfr hargs h
 simp only[TB]at h
 split at h
 ·rename_i n hal
  split at h
  case isFalse=>cases h
  rename_i hfg
  obtain⟨rfl,h0,h1⟩:=hfg
  cases h
  rw[hal]at hargs
  obtain⟨y,ys,e1,hv1,ht⟩:=hargs.inv
  obtain rfl:=ht.inv_nil
  cases hv1
  have hcargs:cargs = #[.int .i64 n]:=by cases cargs;simp at e1;rw[e1]
  subst hcargs
  have hTw:=(hL.now S hb).pow
  refine(Tryz.strconv_Itoa n h0 h1 w hTw).mono ?_
  rintro e w' ⟨rfl,k,os,rfl⟩
  exact⟨_,_,rfl,.string _,Step.behind S (I3 w k os)⟩
 ·rename_i s hal
  split at h
  case isFalse=>cases h
  rename_i hfg
  obtain⟨rfl,h0⟩:=hfg
  rw[hal]at hargs
  obtain⟨y,ys,e1,hv1,ht⟩:=hargs.inv
  obtain rfl:=ht.inv_nil
  cases hv1
  have hcargs:cargs = #[.string s]:=by cases cargs;simp at e1;rw[e1]
  subst hcargs
  split at h
  ·rename_i v hv
   cases h
   refine(Tryz.strconv_Atoi_ok s (by omega) v (Q4 hv) w).mono ?_
   rintro e w' ⟨rfl,hw⟩
   refine⟨_,ρ,rfl,?_,Step.behind S ?_⟩
   ·refine .tuple _ _ rfl fun i a b ha hb => ?_
    match i,ha,hb with
    | 0,ha,hb=>cases ha;cases hb;exact .int _ _
    | 1,ha,hb=>cases ha;cases hb;exact .nilIface
    | i+2,ha,hb=>simp at ha
   ·rcases hw with rfl|⟨t,rfl⟩
    ·exact Below.refl _ _
    ·exact Lib.bytesWorld_below _ _ _
  ·rename_i v hv
   cases h
   have hn:ρ H.length=none:=hfr _ (aF _) (by simp)
   rcases Z3 hv with⟨k1,rfl⟩|⟨k1,k5,rfl⟩
   ·obtain⟨ev,c1,c2⟩:=(hL.now S hb).rng
    refine(Tryz.strconv_Atoi_range s h0 k1 ev w c1 c2).mono ?_
    rintro e w' ⟨N,rfl,k2,k3,k4⟩
    exact Step.err S hn (by omega) k4 k2 k3 _ _
   ·obtain⟨ev,c1,c2⟩:=(hL.now S hb).syn
    refine(Tryz.strconv_Atoi_syntax s h0 k1 k5 ev w c1 c2).mono ?_
    rintro e w' ⟨N,rfl,k2,k3,k4⟩
    exact Step.err S hn (by omega) k4 k2 k3 _ _
 ·rename_i s sep hal
  rw[hal]at hargs
  obtain⟨y,ys,e1,hv1,ht⟩:=hargs.inv
  obtain⟨z,zs,rfl,hv2,ht2⟩:=ht.inv
  obtain rfl:=ht2.inv_nil
  cases hv1
  cases hv2
  have hcargs:cargs = #[.string s,.string sep]:=by cases cargs;simp at e1;rw[e1]
  subst hcargs
  obtain⟨m,hm⟩:=(hL.now S hb).max
  split at h
  ·rename_i hfg
   obtain⟨rfl,h0⟩:=hfg
   cases h
   refine(Tryz.strings_Cut s sep m w h0 hm).mono ?_
   rintro e w' ⟨rfl,k,rfl⟩
   refine⟨_,ρ,rfl,?_,Step.behind S ⟨rfl,rfl,rfl,aF _,fun _ _=>rfl⟩⟩
   refine .tuple _ _ rfl fun i a b ha hb => ?_
   match i,ha,hb with
   | 0,ha,hb=>cases ha;cases hb;exact .string _
   | 1,ha,hb=>cases ha;cases hb;exact .string _
   | 2,ha,hb=>cases ha;cases hb;exact .bool _
   | i+3,ha,hb=>simp at ha
  ·split at h
   ·rename_i hfg
    obtain⟨rfl,h0,h1⟩:=hfg
    cases h
    have hn:ρ H.length=none:=hfr _ (aF _) (by simp)
    refine(Tryz.strings_Split s sep m w h0 hm h1).mono ?_
    rintro e w' ⟨rfl,rfl⟩
    have hlen:(splitS s sep).length=Lib.countB s sep+1:=Lib.splitB_all sep h1 0 _ s rfl
    rw[<- hlen]
    have hgb:(w.alloc (.cells ((splitS s sep).map Value.string).toArray 9)).heap[w.heap.size]? = some (.cells ((splitS s sep).map Value.string).toArray 9 (0,0)):=by
     show(w.heap.push _)[w.heap.size]? = _
     rw[Array.getElem?_push,aA rfl]
    have hst:=Step.far (A:=All) (W:=All) (fl:=fl) S hn (by omega) ((splitS s sep).map Value.string) ((splitS s sep).map Value.string).toArray 9 (0,0) 1 false w.heap.size
     ((Below.refl _ _).alloc (aF _) _) (aF _) hgb (by simp) (fun h=>by cases h) (.inl rfl) (fun i v h=>⟨v,by simpa using h,by
       rw[b8]at h
       cases hx:(splitS s sep)[i]? with
       | none=>rw[hx]at h;cases h
       | some x=>rw[hx]at h;cases h;exact .string x⟩)
    refine⟨_,_,rfl,?_,hst⟩
    exact VRel.slice (b:=H.length) (o:=0) (bC _ _ _) ⟨aF _,.inl ⟨rfl,rfl⟩⟩
   ·cases h
 ·cases h
theorem VC {base:Nat}{w0:World}(hL:LibVars w0)(hb:BI<=base):CallerSound base w0 Go.Proofs.Tryz.prog (IF Go.Proofs.Tryz.prog):=by
 intro fl f args cargs ρ H H' w v S hbf hfl hfr hargs h
 simp only[IF]at h
 split at h
 ·rename_i r hr
  cases h
  exact FA hL hb fl f args cargs ρ H H' w v S hbf hfl hfr hargs hr
 ·exact UK hL hb fl f args cargs ρ H H' w v S hbf hfl hfr hargs h
end Go.Mach
