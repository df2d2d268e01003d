/- Part of the proof. No condition. -/
import Derived.Test.YtpigepmgheabhaaGreatDoorYGo
namespace Go.Mach
structure Pre (H H':aD):Prop where
 len:H.length<=H'.length
 get:∀ b:Nat,b<H.length->H'[b]? = H[b]?
theorem Pre.refl (H:aD):Pre H H:=⟨aF _,fun _ _=>rfl⟩
theorem Pre.trans {A B C:aD}(h:Pre A B)(k:Pre B C):Pre A C:=⟨bY h.len k.len,fun b hb=>(k.get b (dC hb h.len)).trans (h.get b hb)⟩
theorem Pre.push (H K:aD):Pre H (H++K):=⟨by simp,fun b hb=>dL hb⟩
theorem blk?_below {H:aD}{b:Nat}{B:Blk}(h:blk? H b=some B):b<H.length:=by
 unfold blk? at h
 cases hb:H[b]? with
 | none=>simp[hb]at h
 | some C=>exact(List.getElem?_eq_some_iff.1 hb).1
theorem Pre.blk {H H':aD}(h:Pre H H'){b:Nat}{B:Blk}(hb:blk? H b=some B):blk? H' b=some B:=by
 have:=blk?_below hb
 unfold blk? at hb⊢
 rw[h.get b this];exact hb
structure Upd (H H':aD)(b:Nat):Prop where
 len:H'.length=H.length
 get:∀ i:Nat,i≠b->H'[i]? = H[i]?
theorem Upd.blk {H H':aD}{b i:Nat}(u:Upd H H' b)(hi:i≠b){B:Blk}(h:blk? H i=some B):blk? H' i=some B:=by
 unfold blk? at h⊢
 rw[u.get i hi];exact h
def IL (P:Program)(ty:TypeId)(B:Blk)(o:Nat):Option Value :=
 match aTy P ty with
 | .struct sz _ | .array _ _ _ sz=>if o+sz<=B.cells.length/\((B.cells.drop o).take sz).all (fun v => !lC v)=true then some (.agg ((B.cells.drop o).take sz).toArray)else none
 | .other=>none
 | _=>match B.cells[o]? with
   | some v=>if lC v then none else some v
   | none=>none
theorem vX {P:Program}{ty:TypeId}{H:aD}{b o:Nat}{B:Blk}{v:Value}(hb:blk? H b=some B)(h:IL P ty B o=some v):lD P ty H ⟨b,o,none⟩=some v:=by
 unfold IL at h
 unfold lD fC qR
 simp only[hb]
 cases ht:aTy P ty with
 | other=>simp[ht]at h
 | struct sz l =>
   simp only[ht]at h⊢
   split at h
   ·rename_i hl;rw[aA hl];simpa using h
   ·cases h
 | array n e es sz =>
   simp only[ht]at h⊢
   split at h
   ·rename_i hl;rw[aA hl];simpa using h
   ·cases h
 | one =>
   simp only[ht]at h⊢
   cases hc:B.cells[o]? with
   | none=>simp[hc]at h
   | some u=>simp only[hc]at h⊢;exact h
 | str =>
   simp only[ht]at h⊢
   cases hc:B.cells[o]? with
   | none=>simp[hc]at h
   | some u=>simp only[hc]at h⊢;exact h
 | slice e es eb =>
   simp only[ht]at h⊢
   cases hc:B.cells[o]? with
   | none=>simp[hc]at h
   | some u=>simp only[hc]at h⊢;exact h
def tB (P:Program)(ty:TypeId)(B:Blk)(o:Nat)(v:Value):Option Blk :=
 if zN P ty=some v.cells.size/\o+v.cells.toList.length<=B.cells.length/\v.cells.toList.all Value.oneCell'=true then some { B with cells:=setCells B.cells o v.cells.toList } else none
section
variable {P:Program} {fl:Nat} {t:aE} {H H1:aD} {Q:bE->aE->aD->Prop} {ops:Array Oper} {g:List Bool} {l:List Oper} {o:Oper} {K:aE->aD->Prop}
theorem xY {ty:TypeId}{b off:Nat}{B B':Blk}{v:Value}(hb:blk? H b=some B)(hf:fl<=b)(h:tB P ty B off v=some B') :
 ∃ H',uY P fl ty H ⟨b,off,none⟩ v=some H'/\blk? H' b=some B'/\Upd H H' b:=by
 unfold tB at h
 split at h
 ·rename_i hc
  cases h
  obtain⟨h1,h2⟩:H[b]? = some B/\B.alive=true:=by
   unfold blk? at hb
   cases hg:H[b]? with
   | none=>simp[hg]at hb
   | some C =>
     simp only[hg]at hb
     split at hb
     ·cases hb;exact⟨rfl,‹_›⟩
     ·cases hb
  have hl:=(List.getElem?_eq_some_iff.1 h1).1
  unfold uY
  rw[aA hc.1]
  cases hv:v.cells.toList with
  | nil =>
    refine⟨H,by simp[storeAt],?_,rfl,fun _ _=>rfl⟩
    simp only[setCells]
    exact hb
  | cons x xs =>
    rw[hv]at hc
    refine⟨H.set b { B with cells:=setCells B.cells off (x::xs) },?_,?_,by simp,fun i hi=>dK (fun e=>hi e.symm)⟩
    ·simp only[storeAt,hb]
     rw[aA ⟨hf,hc.2.1,hc.2.2⟩]
    ·unfold blk?
     rw[gQ hl]
     simp[h2]
 ·cases h
theorem rY (H:aD)(B:Blk)(hB:B.alive=true):blk? (H++[B]) H.length=some B:=by
 simp[blk?,hB]
end
end Go.Mach
