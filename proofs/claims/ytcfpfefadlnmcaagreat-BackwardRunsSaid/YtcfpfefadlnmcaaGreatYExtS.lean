/- Part of the proof. No condition. -/
import Derived.Test.YtcfpfefadlnmcaaGreatYLib
import Derived.Below
import Derived.Test.YtcfpfefadlnmcaaGreatYStep
namespace Go.Mach
open Go.RowKit Go.Shelf Go.Proofs
theorem Step.far {base:Nat}{w0:World}{A W:Nat->Prop}{fl:Nat}{ρ:Ren}{H:aE}{w w':World}(S:Sim base w0 A ρ H w)(hfr:ρ H.length=none)(hbH:base<=H.length)
 (cs:List Value) (cc:Array Value) (e:TypeId) (fz:Nat×Nat) (es:Nat) (exact:Bool) (g:Nat) (hw:Below w.heap.size w w') (hg:w.heap.size<=g) (hgb:w'.heap[g]? = some (.cells cc e fz))
 (hn:cs.length<=cc.size) (hex:exact=true->cs.length=cc.size) (hfz:∀ i,i<cc.size -> ¬ (fz.1<=i/\i<fz.2))
 (hrel:∀ (i:Nat) v,cs[i]? = some v->∃ v',cc[i]? = some v'/\VRel ρ v v') :
 Step base w0 A W fl ρ H w (aIJ ρ H.length ⟨g,0,cc.size,cs.length,es,exact⟩) (H++[⟨cs,es,exact,true⟩]) w':=by
 have ext:=aBZ ⟨g,0,cc.size,cs.length,es,exact⟩ hfr
 have hgl:g<w'.heap.size:=(Array.getElem?_eq_some_iff.1 hgb).1
 have hsz:=hw.size
 have hold:∀ b,b<w.heap.size->w'.heap[b]? = w.heap[b]? := hw.block
 refine⟨⟨by have:=S.base_le;omega,fun b h => ?_,fun id L h => ?_,fun id L h0 h => ?_,fun id L B h hB => ?_,fun id L B a h hB => ?_,fun id id' L L' a a' h h' hl hl' b1 b2 he => ?_⟩,ext,fun id L h h' => ?_,fun b h _=>hold b h,by omega,⟨hw.os,hw.tape,hw.output⟩,by simp,fun id h _ => ?_,fun id h hl => ?_⟩
 ·rw[hold b (by have:=S.base_le;omega)];exact S.old b h
 ·by_cases hi:id=H.length
  ·subst hi;rw[dK]at h;cases h;exact⟨hgl,fun _=>jH S.base_le hg⟩
  ·rw[fZ _ _ hi]at h;exact⟨by have:=(S.dom id L h).1;omega,(S.dom id L h).2⟩
 ·rw[fZ _ _ (by omega)]at h;exact S.apart id L h0 h
 ·by_cases hi:id=H.length
  ·subst hi;rw[dK]at h;cases h
   simp at hB;subst hB
   exact⟨rfl,rfl,rfl,hn,hex⟩
  ·rw[fZ _ _ hi]at h
   have hlt:id<H.length:=by
    have:=(List.getElem?_eq_some_iff.1 hB).1
    simp at this;omega
   rw[gW hlt]at hB
   exact S.stat id L B h hB
 ·by_cases hi:id=H.length
  ·subst hi;rw[dK]at h;cases h
   have hB':B=⟨cs,es,exact,true⟩:=by simpa [blk?] using hB.symm
   subst hB'
   refine⟨cc,e,fz,hgb,by simp,fun _=>hfz,fun i v hv _ => ?_⟩
   obtain⟨v',h1,h2⟩:=hrel i v hv
   exact⟨v',by simpa using h1,h2.mono ext⟩
  ·rw[fZ _ _ hi]at h
   have hlt:id<H.length:=by
    have:=blk?_lt (H:=H++[_]) (id:=id) (by rw[hB];rfl)
    simp at this;omega
   rw[blk?_append_left hlt]at hB
   obtain⟨c2,e2,f2,h1,h2,h3,h4⟩:=S.cont id L B (a.resolve_right (by omega)) h hB
   refine⟨c2,e2,f2,by rw[hold _ (S.dom id L h).1];exact h1,h2,h3,fun i v hv hh => ?_⟩
   obtain⟨v',p,q⟩:=h4 i v hv hh
   exact⟨v',p,q.mono ext⟩
 ·by_cases hi:id=H.length
  ·by_cases hi':id'=H.length
   ·omega
   ·subst hi;rw[dK]at h;cases h
    rw[fZ _ _ hi']at h'
    have:=(S.dom id' L' h').1
    simp at he;omega
  ·by_cases hi':id'=H.length
   ·subst hi';rw[dK]at h';cases h'
    rw[fZ _ _ hi]at h
    have:=(S.dom id L h).1
    simp at he;omega
   ·rw[fZ _ _ hi]at h;rw[fZ _ _ hi']at h'
    have k1:=blk?_lt hl;have k2:=blk?_lt hl'
    simp at k1 k2
    rw[blk?_append_left (by omega)]at hl hl'
    exact S.inj id id' L L' (a.resolve_right (by omega)) (a'.resolve_right (by omega)) h h' hl hl' b1 b2 he
 ·by_cases hi:id=H.length
  ·subst hi;rw[dK]at h';cases h'
   exact⟨aR _,by simp,.inl hg⟩
  ·rw[fZ _ _ hi]at h';rw[h]at h';cases h'
 ·exact gW h
 ·rw[blk?_append_left h]at hl;exact hl
theorem aIY (P:Program):jB (YJ P):=by
 intro fl f args H v H' h
 simp only[YJ]at h
 split at h
 ·split at h
  ·cases h;exact Kept.push _ _ _
  ·cases h
 ·cases h
theorem aKs:∃ i z,Tryz.prog.info? 3=some i/\i.zero=some z/\z.cells.toList=[.int .i64 0]/\i.size=1/\i.bytes=8:=by
 have h1:aTy Tryz.prog 27 = .slice 3 1 8:=by kernel_rfl
 have h2:qM Tryz.prog 3=some [.int .i64 0]:=by kernel_rfl
 obtain⟨i,z,a1,a2,a3,_⟩:=xE h2
 obtain⟨_,j,_,_,b1,b2,b3,_⟩:=sJ h1
 rw[a1]at b1
 cases b1
 exact⟨i,z,a1,a2,a3.symm,b2,b3⟩
theorem extF_sound {base:Nat}{w0:World}:kW base w0 Go.Proofs.Tryz.prog (YJ Go.Proofs.Tryz.prog):=by
 intro fl f args cargs ρ H H' w v S hbf hfl hfr hargs h
 simp only[YJ]at h
 split at h
 case h_2=>cases h
 rename_i n hal
 split at h
 case isFalse=>cases h
 rename_i hfg
 obtain⟨rfl,h0,h1⟩:=hfg
 cases h
 rw[hal]at hargs
 obtain⟨y,ys,e1,hv1,ht⟩:=hargs.inv
 obtain⟨z,zs,rfl,hv2,ht2⟩:=ht.inv
 obtain rfl:=ht2.inv_nil
 cases hv1
 cases hv2
 have hcargs:cargs = #[.slice none 0 0,.int .i64 n]:=by cases cargs;simp at e1;rw[e1]
 subst hcargs
 obtain⟨m,rfl⟩:∃ m:Nat,n=m:=⟨n.toNat,by omega⟩
 have hn:ρ H.length=none:=hfr _ (aR _) (by simp)
 obtain⟨i0,z,i1,i2,i3,i4,i5⟩:=aKs
 have hz1:z.cells.size=1:=by rw[<- aCY,i3];rfl
 have hge:=grownCap_ge w (0+m) 0 3
 refine(Any8.slices_Grow_grow (P:=Tryz.prog) Tryz.growI i0 z i1 i2 (by omega) none 0 0 m [] w (aR _) (by omega) (by rw[i5];omega) (by omega) (by simp) (fun _=>rfl) (fun a h=>by cases h)).mono ?_
 rintro e w' ⟨rfl,rfl⟩
 have hst:=Step.far (A:=All) (W:=All) (fl:=fl) S hn (by omega) [] (([]:List Value).toArray++Builtin.zeroCells z.cells (0+m-0)++Builtin.zeroCells z.cells (grownCap w (0+m) 0 3-(0+m))) 3 (0,0) 1 false w.heap.size
  (w':=w.drew.alloc (.cells (([]:List Value).toArray++Builtin.zeroCells z.cells (0+m-0)++Builtin.zeroCells z.cells (grownCap w (0+m) 0 3-(0+m))) 3))
  ⟨rfl,rfl,rfl,by show w.heap.size<=(w.heap.push _).size;rw[Array.size_push];omega,fun i hi=>by
   show(w.heap.push _)[i]? = w.heap[i]?
   rw[Array.getElem?_push,aA (by omega)]⟩ (aR _) (by
   show(w.heap.push _)[w.heap.size]? = _
   rw[Array.getElem?_push,aB rfl]) (kM _) (fun h=>by cases h) (fun i _ h=>by omega) (fun i v h=>by simp at h)
 refine⟨_,_,rfl,?_,hst⟩
 refine VRel.slice (b:=H.length) (o:=0) (dK _ _ _) ⟨aR _,.inr (.inl ⟨rfl,rfl,rfl,kM _,?_⟩)⟩
 simp only[Array.size_append,List.size_toArray,size_zeroCells,hz1,List.length_nil]
 show 0+(grownCap w (0+m) 0 3-0)*1<=0+(0+m-0)*1+(grownCap w (0+m) 0 3-(0+m))*1
 omega
end Go.Mach
