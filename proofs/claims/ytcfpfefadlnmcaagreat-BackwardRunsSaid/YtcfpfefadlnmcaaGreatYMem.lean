/- Part of the proof. No condition. -/
import Derived.Test.YtcfpfefadlnmcaaGreatYGo
namespace Go.Mach
structure Pre (H H':aE):Prop where
 len:H.length<=H'.length
 get:∀ b:Nat,b<H.length->H'[b]? = H[b]?
theorem Pre.refl (H:aE):Pre H H:=⟨aR _,fun _ _=>rfl⟩
theorem Pre.trans {A B C:aE}(h:Pre A B)(k:Pre B C):Pre A C:=⟨jH h.len k.len,fun b hb=>(k.get b (oW hb h.len)).trans (h.get b hb)⟩
theorem Pre.push (H K:aE):Pre H (H++K):=⟨by simp,fun b hb=>gW hb⟩
theorem blk?_below {H:aE}{b:Nat}{B:Blk}(h:blk? H b=some B):b<H.length:=by
 unfold blk? at h
 cases hb:H[b]? with
 | none=>simp[hb]at h
 | some C=>exact(List.getElem?_eq_some_iff.1 hb).1
theorem Pre.blk {H H':aE}(h:Pre H H'){b:Nat}{B:Blk}(hb:blk? H b=some B):blk? H' b=some B:=by
 have:=blk?_below hb
 unfold blk? at hb⊢
 rw[h.get b this];exact hb
structure Upd (H H':aE)(b:Nat):Prop where
 len:H'.length=H.length
 get:∀ i:Nat,i≠b->H'[i]? = H[i]?
theorem Pre.upd {H0 H H':aE}{b:Nat}(h:Pre H0 H)(u:Upd H H' b)(hb:H0.length<=b):Pre H0 H' :=
 ⟨by rw[u.len];exact h.len,fun i hi=>(u.get i (by omega)).trans (h.get i hi)⟩
theorem Upd.blk {H H':aE}{b i:Nat}(u:Upd H H' b)(hi:i≠b){B:Blk}(h:blk? H i=some B):blk? H' i=some B:=by
 unfold blk? at h⊢
 rw[u.get i hi];exact h
def Z6 (P:Program)(ty:TypeId)(B:Blk)(o:Nat):Option Value :=
 match aTy P ty with
 | .struct sz _ | .array _ _ _ sz=>if o+sz<=B.cells.length/\((B.cells.drop o).take sz).all (fun v => !F5 v)=true then some (.agg ((B.cells.drop o).take sz).toArray)else none
 | .other=>none
 | _=>match B.cells[o]? with
   | some v=>if F5 v then none else some v
   | none=>none
theorem OR {P:Program}{ty:TypeId}{H:aE}{b o:Nat}{B:Blk}{v:Value}(hb:blk? H b=some B)(h:Z6 P ty B o=some v):Q5 P ty H ⟨b,o,none⟩=some v:=by
 unfold Z6 at h
 unfold Q5 tF aA2
 simp only[hb]
 cases ht:aTy P ty with
 | other=>simp[ht]at h
 | struct sz l =>
   simp only[ht]at h⊢
   split at h
   ·rename_i hl;rw[aB hl];simpa using h
   ·cases h
 | array n e es sz =>
   simp only[ht]at h⊢
   split at h
   ·rename_i hl;rw[aB hl];simpa using h
   ·cases h
 | one =>
   simp only[ht]at h⊢
   cases hc:B.cells[o]? with
   | none=>simp[hc]at h
   | some u=>simp only[hc]at h⊢;exact h
 | str =>
   simp only[ht]at h⊢
   cases hc:B.cells[o]? with
   | none=>simp[hc]at h
   | some u=>simp only[hc]at h⊢;exact h
 | slice e es eb =>
   simp only[ht]at h⊢
   cases hc:B.cells[o]? with
   | none=>simp[hc]at h
   | some u=>simp only[hc]at h⊢;exact h
def HN (P:Program)(ty:TypeId)(B:Blk)(o:Nat)(v:Value):Option Blk :=
 if XB P ty=some v.cells.size/\o+v.cells.toList.length<=B.cells.length/\v.cells.toList.all Value.oneCell'=true then some { B with cells:=setCells B.cells o v.cells.toList } else none
section
variable {P:Program} {fl:Nat} {t:aJ} {H H1:aE} {Q:f9->aJ->aE->Prop} {ops:Array Oper} {g:List Bool} {l:List Oper} {o:Oper} {K:aJ->aE->Prop}
theorem QQ {ty:TypeId}{b off:Nat}{B B':Blk}{v:Value}(hb:blk? H b=some B)(hf:fl<=b)(h:HN P ty B off v=some B') :
 ∃ H',OB P fl ty H ⟨b,off,none⟩ v=some H'/\blk? H' b=some B'/\Upd H H' b:=by
 unfold HN at h
 split at h
 ·rename_i hc
  cases h
  obtain⟨h1,h2⟩:H[b]? = some B/\B.alive=true:=by
   unfold blk? at hb
   cases hg:H[b]? with
   | none=>simp[hg]at hb
   | some C =>
     simp only[hg]at hb
     split at hb
     ·cases hb;exact⟨rfl,‹_›⟩
     ·cases hb
  have hl:=(List.getElem?_eq_some_iff.1 h1).1
  unfold OB
  rw[aB hc.1]
  cases hv:v.cells.toList with
  | nil =>
    refine⟨H,by simp[storeAt],?_,rfl,fun _ _=>rfl⟩
    simp only[setCells]
    exact hb
  | cons x xs =>
    rw[hv]at hc
    refine⟨H.set b { B with cells:=setCells B.cells off (x::xs) },?_,?_,by simp,fun i hi=>gY (fun e=>hi e.symm)⟩
    ·simp only[storeAt,hb]
     rw[aB ⟨hf,hc.2.1,hc.2.2⟩]
    ·unfold blk?
     rw[rG hl]
     simp[h2]
 ·cases h
theorem J0 (H:aE)(B:Blk)(hB:B.alive=true):blk? (H++[B]) H.length=some B:=by
 simp[blk?,hB]
end
end Go.Mach
