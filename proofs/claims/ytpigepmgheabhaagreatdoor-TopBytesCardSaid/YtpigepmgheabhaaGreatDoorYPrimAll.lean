/- Part of the proof. No condition. -/
import Derived.Test.YtpigepmgheabhaaGreatDoorYSim
import Derived.Laws.MakeOwn
import Derived.Laws.CopyRow
import Derived.Laws.IdiomStrings
namespace Go.Mach
open IntKind (i8 i16 i32 i64 u8 u16 u32 u64)
theorem OK {P:Program}{t:TypeId}(h:aTy P t ≠ .other):∃ i d,P.info? t=some i/\P.underlying t=some d:=by
 unfold aTy at h
 split at h
 ·exact⟨_,_,‹_›,‹_›⟩
 ·exact absurd rfl h
theorem uE {P:Program}{t:TypeId}{sz:Nat}{l:List (Nat×Nat×Option Bool)}(h:aTy P t = .struct sz l) :
 ∃ i fs,P.info? t=some i/\P.underlying t=some (.struct fs)/\sz=i.size/\(l=fs.toList.map fun f=>(f.offset,P.cellsOf f.type,T5 P f.type)) /\
   ∀ f∈fs.toList,(P.info? f.type).isSome=true:=by
 unfold aTy at h
 grind
theorem n9 {P:Program}{t:TypeId}{n e es sz:Nat}(h:aTy P t = .array n e es sz) :
 ∃ i j,P.info? t=some i/\P.underlying t=some (.array n e)/\sz=i.size/\P.info? e=some j/\j.size=es/\es≠0:=by
 unfold aTy at h
 grind
theorem fR {P:Program}{t:TypeId}{e es eb:Nat}(h:aTy P t = .slice e es eb) :
 ∃ i j,P.info? t=some i/\P.underlying t=some (.slice e)/\P.info? e=some j/\j.size=es/\j.bytes=eb/\es≠0:=by
 unfold aTy at h
 grind
theorem G4 {P:Program}{t:TypeId}(h:aTy P t = .str):P.underlying t=some .string:=by
 unfold aTy at h
 grind
theorem mG {P:Program}{t:TypeId}{d:TypeDesc}(h:P.underlying t=some d)(w:World):(isAgg t).run P w = .ok (pF P t) w:=by
 unfold isAgg pF
 rw[lT,aT h w,h]
 cases d <;> rfl
theorem ZH {P:Program}{t:TypeId}(h:aTy P t ≠ .other) :
 pF P t=(match aTy P t with | .struct _ _ | .array _ _ _ _=>true|_=>false):=by
 unfold aTy at h⊢
 unfold pF
 split at h
 ·rename_i i d h1 h2
  simp only[h2,Option.any_some]
  cases d <;> simp only[aB5]at h⊢
  case struct fs =>
   grind
  case slice e =>
   cases P.info? e with
   | none=>rfl
   | some j=>by_cases hz:j.size=0 <;> simp[hz]
  grind
 ·exact absurd rfl h
theorem jQ {P:Program}{t:TypeId}{cs:List Value}(h:cS P t=some cs):∃ i z,P.info? t=some i/\i.zero=some z/\cs=z.cells.toList/\cs.all fX=true:=by
 unfold cS at h
 cases hi:P.info? t with
 | none=>simp[hi]at h
 | some i=>grind
theorem dY {P:Program}{t:TypeId}{i:TypeInfo}{z:Value}(h:P.info? t=some i)(hz:i.zero=some z)(w:World):(zeroValue t).run P w = .ok z w:=by
 simp[zeroValue,typeInfo,h,hz]
theorem aV {P:Program}{t:TypeId}{i:TypeInfo}(h:P.info? t=some i)(w:World):(sizeOf t).run P w = .ok i.size w:=by
 simp[sizeOf,typeInfo,h]
theorem VRel.plain {ρ:Ren}{v:Value}(h:fX v=true):VRel ρ v v:=by
 cases v <;> simp only[fX]at h <;> try (cases h;done)
 case pointer a=>cases a with
  | none=>exact .nilptr
  | some a=>cases h
 case slice a n c=>cases a with
  | none=>exact .nilslice n c
  | some a=>cases h
 all_goals constructor
theorem LRel.plain {ρ:Ren}{l:List Value}(h:l.all fX=true):LRel ρ l l:=by
 refine⟨rfl,fun i v v' a b => ?_⟩
 rw[a]at b;cases b
 exact VRel.plain (List.all_eq_true.1 h v (fW a))
theorem dU (b o n:Nat):(⟨b,o,none⟩:Addr).add n=⟨b,o+n,none⟩:=by
 unfold Addr.add
 split
 ·simp_all
 ·rfl
section
variable {base:Nat} {w0:World} {A:Nat->Prop} {ρ:Ren} {H:aD} {w:World}
theorem BL (S:Sim base w0 A ρ H w){b o:Nat}{L:Loc}{v:Value}(hA:A b)(hL:ρ b=some L)(h:qR H ⟨b,o,none⟩=some v) :
 ∃ v',w.cell? ⟨L.blk,L.off+o,none⟩=some v'/\VRel ρ v v':=by
 unfold qR at h
 simp only at h
 cases hB:blk? H b with
 | none=>simp[hB]at h
 | some B =>
   simp only[hB]at h
   obtain⟨cc,e,fz,h1,_,_,h4⟩:=S.cont b L B hA hL hB
   cases hc:B.cells[o]? with
   | none=>simp[hc]at h
   | some u =>
     simp only[hc]at h
     split at h
     ·cases h
     ·rename_i hh
      cases h
      obtain⟨v',p,q⟩:=h4 o _ hc (by simpa using hh)
      exact⟨v',by simp[World.cell?,h1,p],q⟩
theorem DR (S:Sim base w0 A ρ H w){b o n:Nat}{L:Loc}{cs:List Value}(hA:A b)(hL:ρ b=some L)(h:fC H ⟨b,o,none⟩ n=some cs) :
 ∃ cs',LRel ρ cs cs'/\cs.length=n/\∀ (j:Nat) v,cs'[j]? = some v->w.cell? ((⟨L.blk,L.off+o,none⟩:Addr).add j)=some v:=by
 unfold fC at h
 simp only at h
 cases hB:blk? H b with
 | none=>simp[hB]at h
 | some B =>
   simp only[hB]at h
   split at h
   ·rename_i hn
    cases h
    obtain⟨cc,e,fz,h1,h2,_,h4⟩:=S.cont b L B hA hL hB
    have hst:=S.stat b L B hL (blk?_some hB).1
    refine⟨(cc.toList.drop (L.off+o)).take n,⟨by simp;omega,fun i v v' hv hv' => ?_⟩,by simp;omega,fun j v hv => ?_⟩
    ·grind
    ·rw[dU]
     by_cases hi:j<n
     ·simp only[List.getElem?_take,hi,aO,q8,nF]at hv
      simp[World.cell?,h1,hv]
     ·simp[List.getElem?_take,hi]at hv
   ·cases h
theorem uG {b o:Nat}{s:Option Nat}{v:Value}(h:VRel ρ (.pointer (some ⟨b,o,s⟩)) v):s=none/\∃ L,ρ b=some L/\v = .pointer (some ⟨L.blk,L.off+o,none⟩):=by
 cases h with
 | ptr h=>exact⟨rfl,_,h,rfl⟩
theorem gY {b o n c:Nat}{s:Option Nat}{v:Value}(h:VRel ρ (.slice (some ⟨b,o,s⟩) n c) v) :
 (s=none/\∃ L o' c',ρ b=some L/\Fit L o n c o' c'/\v = .slice (some ⟨L.blk,o',none⟩) n c')\/(s=none/\n=0/\c=0/\∃ L a',ρ b=some L/\v = .slice (some a') 0 0):=by
 cases h with
 | slice h hf=>exact .inl ⟨rfl,_,_,_,h,hf,rfl⟩
 | empty a' h=>grind
theorem FB {P:Program}(S:Sim base w0 A ρ H w){t:TypeId}{b o:Nat}{L:Loc}{v:Value}(hA:A b)(hL:ρ b=some L)(h:lD P t H ⟨b,o,none⟩=some v) :
 ∃ v',(loadVar t ⟨L.blk,L.off+o,none⟩).run P w = .ok v' w/\VRel ρ v v':=by
 have hne:aTy P t ≠ .other:=by intro he;simp[lD,he]at h
 obtain⟨i,d,hi,hd⟩:=OK hne
 have hag:=ZH hne
 have agg:∀ sz,sz=i.size->pF P t=true->(fC H ⟨b,o,none⟩ sz).map (fun cs=>Value.agg cs.toArray)=some v ->
  ∃ v',(loadVar t ⟨L.blk,L.off+o,none⟩).run P w = .ok v' w/\VRel ρ v v':=by
  intro sz hsz hb hm
  cases hc:fC H ⟨b,o,none⟩ sz with
  | none=>simp[hc]at hm
  | some cs =>
    simp[hc]at hm
    obtain⟨cs',hr,hl,hw⟩:=DR S hA hL hc
    have hlen:cs'.length=i.size:=by rw[<- hr.1,hl,hsz]
    have:=run_loadCells_list (P:=P) w ⟨L.blk,L.off+o,none⟩ cs' hw
    rw[hlen]at this
    refine⟨.agg cs'.toArray,?_,hm▸VRel.agg_of hr⟩
    simp only[loadVar,Sem.run_bind,mG hd,hb,Result.andThen_ok,aO,aV hi,this,Sem.run_pure]
 have one:pF P t=false->qR H ⟨b,o,none⟩=some v->∃ v',(loadVar t ⟨L.blk,L.off+o,none⟩).run P w = .ok v' w/\VRel ρ v v':=by
  intro hb hc
  obtain⟨v',hv,hr⟩:=BL S hA hL hc
  refine⟨v',?_,hr⟩
  simp[loadVar,Sem.run_bind,mG hd,hb,Result.andThen_ok,hv]
 unfold lD at h
 cases ht:aTy P t with
 | other=>exact absurd ht hne
 | struct sz l =>
   obtain⟨i',fs,p,q,r,_,_⟩:=uE ht
   grind
 | array n e es sz =>
   obtain⟨i',j,p,q,r,_⟩:=n9 ht
   rw[hi]at p;cases p
   grind
 | one=>grind
 | str=>grind
 | slice e es eb=>grind
theorem U5 (cc:Array Value)(i:Nat)(v:Value):cc.setIfInBounds i v=(cc.toList.set i v).toArray:=by
 apply zE
 simp
theorem iO (P:Program)(g o:Nat)(e:TypeId)(fz:Nat×Nat):∀ (vs:List Value) (i:Nat) (cc:Array Value) (w:World),w.heap[g]? = some (.cells cc e fz) ->
 o+i+vs.length<=cc.size->(∀ j,j<cc.size -> ¬ (fz.1<=j/\j<fz.2))->vs.all Value.oneCell'=true ->
 ∃ w',(storeCells ⟨g,o,none⟩ vs i).run P w = .ok () w'/\D4 w w' (w.heap.setIfInBounds g (.cells (setCells cc.toList (o+i) vs).toArray e fz))
 | [],i,cc,w,hg,_,_,_=>by
   refine⟨w,by simp[storeCells],?_,rfl,rfl,rfl⟩
   apply zE
   simp only[setCells,Array.toList_setIfInBounds]
   apply wQ
   intro k
   by_cases hk:g=k
   ·subst hk
    have hl:=(Array.getElem?_eq_some_iff.1 hg).1
    rw[gQ (by simpa using hl)]
    simpa using hg
   ·rw[dK hk]
 | v::vs,i,cc,w,hg,hn,hfz,hv=>by
   simp only[List.all_cons,aH]at hv
   simp only[List.length_cons]at hn
   have hc:w.cell? ⟨g,o+i,none⟩=some cc[o+i]:=by
    rw[cell_of_row w g (o+i) cc e fz hg]
    exact nU (by omega)
   have hf:w.frozen? ⟨g,o+i,none⟩=false:=by
    have:=hfz (o+i) (by omega)
    obtain⟨lo,hi⟩:=fz
    simp only[World.frozen?,hg]
    simp only at this
    cases hx:(decide (lo<=o+i)&&decide (o+i<hi))with
    | false=>rfl
    | true=>simp at hx;exact absurd hx this
   have hs:(w.setCell ⟨g,o+i,none⟩ v).heap=w.heap.setIfInBounds g (.cells (cc.toList.set (o+i) v).toArray e fz):=by
    apply Array.ext_getElem?
    intro k
    by_cases hk:g=k
    ·subst hk
     have hl:=(Array.getElem?_eq_some_iff.1 hg).1
     rw[JT hl]
     simp[World.setCell,Array.getElem?_modify,hg,U5]
    ·rw[FP hk]
     simp[World.setCell,Array.getElem?_modify,hk]
   have hl:=(Array.getElem?_eq_some_iff.1 hg).1
   have hg':(w.setCell ⟨g,o+i,none⟩ v).heap[g]? = some (.cells (cc.toList.set (o+i) v).toArray e fz):=by
    rw[hs,JT hl]
   obtain⟨w',h1,h2⟩:=iO P g o e fz vs (i+1) _ _ hg' (by simp;omega) (by simpa using hfz) hv.2
   refine⟨w',?_,?_,h2.os,h2.tape,h2.output⟩
   ·simp only[storeCells,Sem.run_bind,dU]
    rw[run_store P w _ v _ hv.1]
    simp_all
   ·rw[h2.heap,hs]
    apply Array.ext_getElem?
    intro k
    by_cases hk:g=k
    ·subst hk
     rw[JT (by simpa using hl),JT hl]
     simp[setCells,rJ]
    ·grind
end
end Go.Mach
namespace Go.Mach
open IntKind (i8 i16 i32 i64 u8 u16 u32 u64)
def aIU (ρ:Ren):tG->Next->Prop
 | .value v,.value v'=>VRel ρ v v'
 | .skip,.skip=>True
 | .enter f args,.enter f' args'=>f=f'/\LRel ρ args.toList args'.toList
 | _,_=>False
theorem GW {P:Program}(op:BinOp)(t:TypeId)(x y:Operand)(k k':IntKind)(a b:Int)(w:World):(eqGuard op t x y (.int k a) (.int k' b)).run P w = .ok () w:=by
 unfold eqGuard
 cases op <;> simp
theorem DS {P:Program}(op:BinOp)(t:TypeId)(x y:Operand)(a b:Bool)(w:World):(eqGuard op t x y (.bool a) (.bool b)).run P w = .ok () w:=by
 unfold eqGuard
 cases op <;> simp
theorem BF {P:Program}(op:BinOp)(t:TypeId)(x y:Operand)(a b:ByteArray)(w:World):(eqGuard op t x y (.string a) (.string b)).run P w = .ok () w:=by
 unfold eqGuard
 cases op <;> simp
theorem KU {P:Program}{t:TypeId}{x y:Value}{b:Bool}{w:World}(h:∀ n,(Op.equalIn (n+1) t x y).run P w = .ok b w) :
 ((do pure (Value.bool (<- Op.equal t x y))):Sem Value).run P w = .ok (.bool b) w/\((do pure (Value.bool (!(<- Op.equal t x y)))):Sem Value).run P w = .ok (.bool (!b)) w:=by
 have:(Op.equal t x y).run P w = .ok b w:=h 9999
 constructor <;> simp[this]
theorem AU {P:Program}{op:BinOp}{t:TypeId}{ox oy:Operand}{x y v:Value}{ρ:Ren}{x' y':Value}(hx:VRel ρ x x')(hy:VRel ρ y y')(h:fI op x y=some v)
 (ht:(∃ k a k' b,x = .int k a/\y = .int k' b)\/(∃ a b,x = .string a/\y = .string b)\/((∃ a b,x = .bool a/\y = .bool b)/\P.underlying t=some .bool)) (w:World) :
 (do eqGuard op t ox oy x' y';binOp op t x' y').run P w = .ok v w/\VRel ρ v v:=by
 rcases ht with⟨k,a,k',b,rfl,rfl⟩|⟨a,b,rfl,rfl⟩|⟨⟨a,b,rfl,rfl⟩,hu⟩
 ·cases hx;cases hy
  rw[lT,GW,nD]
  cases op <;> simp only[fI]at h <;> (repeat' split at h) <;> (try cases h) <;>
   first
    | (refine⟨?_,VRel.int _ _⟩;simp_all[binOp,Op.intArith,Op.intDiv,Op.intBits];done)
    | (refine⟨?_,VRel.bool _⟩;simp_all[binOp,Op.intCmp];done)
    | (rename_i hb;refine⟨?_,VRel.int _ _⟩;simp only[binOp,Op.shift,aC hb,Sem.run_pure];done)
 ·cases hx;cases hy
  rw[lT,BF,nD]
  cases op <;> simp only[fI]at h <;> (repeat' split at h) <;> (try cases h) <;>
   first
    | (refine⟨?_,VRel.bool _⟩;simp[binOp,Op.stringOp];done)
    | skip
  rename_i hs
  refine⟨?_,VRel.string _⟩
  have : ¬ ((a.size+b.size:Nat):Int)>i64.max:=by
   have:i64.max=9223372036854775807:=by decide
   omega
  simp only[binOp,Op.stringOp,this,aS,Sem.run_pure]
 ·cases hx;cases hy
  rw[lT,DS,nD]
  have he:=KU (P:=P) (t:=t) (x := .bool a) (y := .bool b) (b:=a==b) (w:=w) fun n=>by
   simp only[Op.equalIn,Sem.run_bind,aT hu,Result.andThen_ok,Sem.run_pure]
  cases op <;> simp only[fI]at h <;> (try cases h)
  ·exact⟨he.1,VRel.bool _⟩
  ·exact⟨he.2,VRel.bool _⟩
theorem FE {P:Program}{t:TypeId}{ox oy:Operand}{c b:Bool}{x y:Value}{ρ:Ren}{x' y':Value}(hx:VRel ρ x x')(hy:VRel ρ y y')(h:vE P t c x y=some b)
 (hc:c=true->bR ox=true\/bR oy=true) (w:World) :
 (do eqGuard .eql t ox oy x' y';binOp .eql t x' y').run P w = .ok (.bool b) w/\(do eqGuard .neq t ox oy x' y';binOp .neq t x' y').run P w = .ok (.bool (!b)) w:=by
 have fin:∀ (u u':Value),(∀ op,(eqGuard op t ox oy u u').run P w = .ok () w)->(binOp .eql t u u'=do pure (Value.bool (<- Op.equal t u u'))) ->
  (binOp .neq t u u'=do pure (Value.bool (!(<- Op.equal t u u'))))->(∀ n,(Op.equalIn (n+1) t u u').run P w = .ok b w) ->
  (do eqGuard .eql t ox oy u u';binOp .eql t u u').run P w = .ok (.bool b) w/\(do eqGuard .neq t ox oy u u';binOp .neq t u u').run P w = .ok (.bool (!b)) w:=by
  intro u u' hg h1 h2 he
  have hr:=KU (P:=P) (t:=t) (x:=u) (y:=u') (b:=b) (w:=w) he
  rw[lT,hg,nD,lT,hg,nD,h1,h2]
  exact hr
 unfold vE at h
 split at h
 ·rename_i e hu
  split at h
  ·cases h;cases hx
   cases hy <;>
    (refine fin _ _ (fun op=>by unfold eqGuard;cases op <;> simp) rfl rfl fun n => ?_
     simp only[Op.equalIn,Sem.run_bind,aT hu,Result.andThen_ok,Sem.run_pure,Option.isNone])
  ·cases h;cases hy
   cases hx
   refine fin _ _ (fun op=>by unfold eqGuard;cases op <;> simp) rfl rfl fun n => ?_
   simp only[Op.equalIn,Sem.run_bind,aT hu,Result.andThen_ok,Sem.run_pure]
  ·cases h
 ·rename_i e hu
  split at h
  ·cases h;cases hx
   cases hy <;>
    (refine fin _ _ (fun op=>by unfold eqGuard;cases op <;> simp) rfl rfl fun n => ?_
     simp only[Op.equalIn,Sem.run_bind,aT hu,Result.andThen_ok,Sem.run_pure,Option.isNone])
  ·cases h;cases hy
   cases hx <;>
    (refine fin _ _ (fun op=>by unfold eqGuard;cases op <;> simp) rfl rfl fun n => ?_
     simp only[Op.equalIn,Sem.run_bind,aT hu,Result.andThen_ok,Sem.run_pure,Option.isNone])
  ·cases h
 ·rename_i p q r hu
  split at h <;> cases h <;> cases hx <;> cases hy <;>
   (refine fin _ _ (fun op=>by unfold eqGuard;cases op <;> simp) rfl rfl fun n => ?_
    simp only[Op.equalIn,Sem.run_bind,aT hu,Result.andThen_ok,Sem.run_pure])
 ·rename_i ms hu
  split at h
  ·split at h
   ·rename_i hcc
    cases h;cases hx;cases hy
    have hcc':=hc hcc
    refine fin _ _ (fun op => ?_) rfl rfl fun n => ?_
    ·unfold eqGuard
     cases ox <;> cases oy <;> simp_all[bR] <;> cases op <;> simp
    ·simp only[Op.equalIn,Sem.run_bind,aT hu,Result.andThen_ok,Sem.run_pure]
   ·cases h
  ·cases h;cases hx;cases hy
   refine fin _ _ (fun op=>by unfold eqGuard;cases op <;> simp) rfl rfl fun n => ?_
   simp only[Op.equalIn,Sem.run_bind,aT hu,Result.andThen_ok,Sem.run_pure]
  ·cases h;cases hx;cases hy
   refine fin _ _ (fun op=>by unfold eqGuard;cases op <;> simp) rfl rfl fun n => ?_
   simp only[Op.equalIn,Sem.run_bind,aT hu,Result.andThen_ok,Sem.run_pure]
  ·cases h
 ·cases h
theorem UY {op:BinOp}{x y v:Value}(h:fI op x y=some v) :
 (∃ k a k' b,x = .int k a/\y = .int k' b)\/(∃ a b,x = .string a/\y = .string b)\/((∃ a b,x = .bool a/\y = .bool b)/\(op = .eql\/op = .neq)):=by
 unfold fI at h
 grind
theorem ZJ {P:Program}{op:BinOp}{t:TypeId}{ox oy:Operand}{x y v:Value}{ρ:Ren}{x' y':Value}(hx:VRel ρ x x')(hy:VRel ρ y y')(h:aFl op x y=some v)(w:World) :
 (do eqGuard op t ox oy x' y';binOp op t x' y').run P w = .ok v w/\VRel ρ v v:=by
 unfold aFl at h
 split at h
 ·cases hx;cases hy
  split at h
  ·rename_i e;subst e;cases h
   exact⟨by rw[eqGuard_at_float,binOp_float_cmp_eql];rfl,.bool _⟩
  ·cases h
 ·cases hx;cases hy
  split at h
  ·rename_i e;subst e;cases h
   exact⟨by rw[eqGuard_at_float,binOp_float_cmp_leq];rfl,.bool _⟩
  ·cases h
 ·cases hx;cases hy
  split at h
  ·rename_i e;subst e;cases h
   exact⟨by rw[eqGuard_at_float,binOp_float_cmp_geq];rfl,.bool _⟩
  ·cases h
 ·rename_i k a b k' c d
  cases hx;cases hy
  split at h
  ·rename_i e;subst e
   cases hc:cSumBits .add k a b c d with
   | none=>rw[hc]at h;cases h
   | some r =>
     rw[hc]at h;cases h
     exact⟨by rw[eqGuard_at_complex,lT,Sem.run_pure,nD];exact run_complex_sum w .add (.inl rfl) t k a b c d r.1 r.2 hc,.complex _ _ _⟩
  ·cases h
 ·rename_i k a b k' c d
  cases hx;cases hy
  split at h
  ·rename_i e;subst e
   cases hc:cSumBits .sub k a b c d with
   | none=>rw[hc]at h;cases h
   | some r =>
     rw[hc]at h;cases h
     exact⟨by rw[eqGuard_at_complex,lT,Sem.run_pure,nD];exact run_complex_sum w .sub (.inr rfl) t k a b c d r.1 r.2 hc,.complex _ _ _⟩
  ·cases h
 ·rename_i a b c d
  cases hx;cases hy
  cases hc:cMulBits a b c d with
  | none=>rw[hc]at h;cases h
  | some r =>
    rw[hc]at h;cases h
    exact⟨by rw[eqGuard_at_complex,lT,Sem.run_pure,nD];exact run_complex_mul w t a b c d r.1 r.2 hc,.complex _ _ _⟩
 ·cases h
theorem NM {P:Program}{t:TypeId}{x y:Value}{b:Bool}{ρ:Ren}{xs ys xs' ys':Array Value}{o:Nat}(hx:LRel ρ xs.toList xs'.toList)(hy:LRel ρ ys.toList ys'.toList)
 (h1:xs.toList[o]? = some x) (h2:ys.toList[o]? = some y) (h:D7 (P.underlying t) x y=some b) (d:Nat) (w:World) :
 (part t xs' o).run P w = .ok x w/\(part t ys' o).run P w = .ok y w/\(Op.equalIn (d+1) t x y).run P w = .ok b w:=by
 obtain⟨u,p1,p2⟩:=hx.get (i:=o) (v:=x) h1
 obtain⟨v,q1,q2⟩:=hy.get (i:=o) (v:=y) h2
 have p1':xs'[o]? = some u:=by simpa using p1
 have q1':ys'[o]? = some v:=by simpa using q1
 cases hd:P.underlying t with
 | none=>rw[hd]at h;simp[D7]at h
 | some D =>
   rw[hd]at h
   unfold D7 at h
   split at h
   ·rename_i k k1 a k2 c hD
    cases hD
    cases p2;cases q2
    split at h
    ·rename_i hk
     cases h
     have ha:pF P t=false:=by unfold pF;rw[hd];rfl
     refine⟨?_,?_,?_⟩
     ·simp only[part,Sem.run_bind,mG hd,ha,Result.andThen_ok,eK,aS,p1',Sem.run_pure]
     ·simp only[part,Sem.run_bind,mG hd,ha,Result.andThen_ok,eK,aS,q1',Sem.run_pure]
     ·simp only[Op.equalIn,Sem.run_bind,aT hd,Result.andThen_ok,hk,aO,Sem.run_pure]
    ·cases h
   ·rename_i a c hD
    cases hD
    cases p2;cases q2
    cases h
    have ha:pF P t=false:=by unfold pF;rw[hd];rfl
    refine⟨?_,?_,?_⟩
    ·simp only[part,Sem.run_bind,mG hd,ha,Result.andThen_ok,eK,aS,p1',Sem.run_pure]
    ·simp only[part,Sem.run_bind,mG hd,ha,Result.andThen_ok,eK,aS,q1',Sem.run_pure]
    ·simp only[Op.equalIn,Sem.run_bind,aT hd,Result.andThen_ok,Sem.run_pure]
   ·cases h
theorem OM {P:Program}{ρ:Ren}{xs ys xs' ys':Array Value}(hx:LRel ρ xs.toList xs'.toList)(hy:LRel ρ ys.toList ys'.toList)(d:Nat)(w:World) :
 ∀ (fs:List Field) (b:Bool),(fs.any fun f=>f.name == "_")=false->oD P (fs.map fun f=>(f.type,f.offset)) xs.toList ys.toList=some b ->
   ((forIn fs ((none:Option Bool),()) fun f _=>do
    if f.name ≠ "_" then
     if !(<- Op.equalIn (d+1) f.type (<- part f.type xs' f.offset) (<- part f.type ys' f.offset))then return ForInStep.done (some false,())
     else pure (ForInStep.yield (none,()))
    else pure (ForInStep.yield (none,()))):Sem (Option Bool×Unit)).run P w = .ok (if b then none else some false,()) w
 | [],b,_,h=>by
   simp only[List.map_nil,oD,aX]at h
   subst h
   simp
 | f::fs,b,hn,h=>by
   simp only[List.map_cons,oD]at h
   split at h
   ·rename_i x y h1 h2
    split at h
    ·rename_i b1 b2 e1 e2
     simp only[aX]at h
     subst h
     obtain⟨k1,k2,k3⟩:=NM hx hy h1 h2 e1 d w
     simp only[List.any_cons,ER]at hn
     have ih:=OM hx hy d w fs b2 hn.2 e2
     have hne:f.name ≠ "_" := by simpa using hn.1
     simp only[List.forIn_cons,aA hne,Sem.run_bind,k1,k2,k3,Result.andThen_ok]
     cases b1 with
     | false=>simp
     | true =>
       simpa using ih
    ·cases h
   ·cases h
theorem TR {P:Program}{ρ:Ren}{xs ys xs' ys':Array Value}(hx:LRel ρ xs.toList xs'.toList)(hy:LRel ρ ys.toList ys'.toList)(d:Nat)(w:World)(e:TypeId) :
 ∀ (is:List Nat) (b:Bool),oD P (is.map fun i=>(e,i)) xs.toList ys.toList=some b ->
   ((forIn is ((none:Option Bool),()) fun i _=>do
    if !(<- Op.equalIn (d+1) e (<- part e xs' (i*1)) (<- part e ys' (i*1)))then return ForInStep.done (some false,())
    else pure (ForInStep.yield (none,()))):Sem (Option Bool×Unit)).run P w = .ok (if b then none else some false,()) w
 | [],b,h=>by
   simp only[List.map_nil,oD,aX]at h
   subst h
   simp
 | i::is,b,h=>by
   simp only[List.map_cons,oD]at h
   split at h
   ·rename_i x y h1 h2
    split at h
    ·rename_i b1 b2 e1 e2
     simp only[aX]at h
     subst h
     obtain⟨k1,k2,k3⟩:=NM hx hy h1 h2 e1 d w
     have ih:=TR hx hy d w e is b2 e2
     simp only[List.forIn_cons,Sem.run_bind,mV,k1,k2,k3,Result.andThen_ok]
     cases b1 with
     | false=>simp
     | true =>
       simp only[mV]at ih
       simpa using ih
    ·cases h
   ·cases h
theorem F7 {P:Program}{t:TypeId}{x y:Value}{b:Bool}{ρ:Ren}{x' y':Value}(hx:VRel ρ x x')(hy:VRel ρ y y')(h:zH P t x y=some b)(ox oy:Operand)(w:World) :
 (do eqGuard .eql t ox oy x' y';binOp .eql t x' y').run P w = .ok (.bool b) w/\(do eqGuard .neq t ox oy x' y';binOp .neq t x' y').run P w = .ok (.bool (!b)) w:=by
 unfold zH at h
 split at h
 case h_2=>cases h
 rename_i xs ys l hl
 split at h
 ·cases h
 rename_i hg
 simp only[not_or,Bool.not_eq_true]at hg
 obtain⟨hg,_⟩:=hg
 cases hx
 rename_i xs' hxs hxr
 cases hy
 rename_i ys' hys hyr
 have hX:LRel ρ xs.toList xs'.toList:=⟨by simpa using hxs,fun i a b h1 h2=>hxr i a b (by simpa using h1) (by simpa using h2)⟩
 have hY:LRel ρ ys.toList ys'.toList:=⟨by simpa using hys,fun i a b h1 h2=>hyr i a b (by simpa using h1) (by simpa using h2)⟩
 have guard:∀ op,(eqGuard op t ox oy (.agg xs') (.agg ys')).run P w = .ok () w:=by
  intro op
  unfold eqGuard
  cases op <;> simp[hg]
 have key:∀ n,(Op.equalIn (n+2) t (.agg xs') (.agg ys')).run P w = .ok b w:=by
  intro n
  unfold PM at hl
  split at hl
  ·rename_i fs hu
   split at hl
   ·cases hl
   rename_i hn
   simp only[iX,not_or,Bool.not_eq_true]at hn
   cases hl
   have:=OM hX hY n w fs.toList b hn.2 h
   rw[Op.equalIn,lT,aT hu,nD]
   dsimp only
   rw[lT,show(program).run P w = .ok P w from rfl,nD,aC (by rw[hn.1];simp),<- Array.forIn_toList]
   refine(lT _ _ _ _).trans ?_
   refine(congrArg (fun r=>Result.andThen r _) this).trans ?_
   rw[nD]
   cases b <;> rfl
  ·rename_i m e hu
   split at hl
   ·rename_i hc
    cases hl
    have:=TR hX hY n w e (List.range m) b h
    rw[Op.equalIn,lT,aT hu,nD]
    dsimp only
    have hsz:(sizeOf e).run P w = .ok 1 w:=by
     have hi:(P.info? e).isSome=true:=by
      cases hi:P.info? e with
      | none=>simp[Program.cellsOf,hi]at hc
      | some i=>rfl
     obtain⟨i,hi⟩:=Option.isSome_iff_exists.1 hi
     have h1:i.size=1:=by simpa [Program.cellsOf,hi] using hc
     rw[aV hi,h1]
    rw[lT,hsz,nD,Std.Legacy.Range.forIn_eq_forIn_range']
    simp only[Std.Legacy.Range.size,Nat.sub_zero,Nat.add_sub_cancel,Nat.div_one]
    rw[<- List.range_eq_range']
    refine(lT _ _ _ _).trans ?_
    refine(congrArg (fun r=>Result.andThen r _) this).trans ?_
    rw[nD]
    cases b <;> rfl
   ·cases hl
  ·cases hl
 have he:(Op.equal t (.agg xs') (.agg ys')).run P w = .ok b w:=key 9998
 have h1:binOp .eql t (.agg xs') (.agg ys')=(do pure (Value.bool (<- Op.equal t (.agg xs') (.agg ys')))):=rfl
 have h2:binOp .neq t (.agg xs') (.agg ys')=(do pure (Value.bool (!(<- Op.equal t (.agg xs') (.agg ys'))))):=rfl
 simp_all
theorem aAV {P:Program}{op:BinOp}{t:TypeId}{x y v:Value}{ρ:Ren}{x' y':Value}(hx:VRel ρ x x')(hy:VRel ρ y y')(h:eqA P op t x y=some v)(ox oy:Operand)(w:World) :
 (do eqGuard op t ox oy x' y';binOp op t x' y').run P w = .ok v w/\VRel ρ v v:=by
 unfold eqA at h
 cases op <;> simp only at h <;> try (cases h;done)
 ·cases hn:zH P t x y with
  | none=>simp[hn]at h
  | some b=>simp[hn]at h;subst h;exact⟨(F7 hx hy hn ox oy w).1,.bool _⟩
 ·cases hn:zH P t x y with
  | none=>simp[hn]at h
  | some b=>simp[hn]at h;subst h;exact⟨(F7 hx hy hn ox oy w).2,.bool _⟩
theorem UO {P:Program}{op:BinOp}{t:TypeId}{ox oy:Operand}{c:Bool}{x y v:Value}{ρ:Ren}{x' y':Value}(hx:VRel ρ x x')(hy:VRel ρ y y')(h:nM P op t c x y=some v)
 (hc:c=true->bR ox=true\/bR oy=true) (w:World) :
 (do eqGuard op t ox oy x' y';binOp op t x' y').run P w = .ok v w/\VRel ρ v v:=by
 unfold nM at h
 split at h
 ·rename_i u hu
  split at h
  ·cases h
   rcases UY hu with hk|hk|⟨hk,_⟩
   ·exact AU hx hy hu (.inl hk) w
   ·exact AU hx hy hu (.inr (.inl hk)) w
   ·exact AU hx hy hu (.inr (.inr ⟨hk,by
     obtain⟨a,b,rfl,rfl⟩:=hk
     have hb:DX P t (.bool a)=true:=by assumption
     unfold DX at hb
     simp only at hb
     split at hb
     ·assumption
     ·cases hb⟩)) w
  ·cases h
 ·split at h
  ·rename_i u hu
   cases h
   unfold S4 at hu
   cases op <;> simp only at hu <;> try (cases hu;done)
   ·cases hn:vE P t c x y with
    | none=>simp[hn]at hu
    | some b=>simp[hn]at hu;subst hu;exact⟨(FE hx hy hn hc w).1,.bool _⟩
   ·cases hn:vE P t c x y with
    | none=>simp[hn]at hu
    | some b=>simp[hn]at hu;subst hu;exact⟨(FE hx hy hn hc w).2,.bool _⟩
  ·split at h
   ·rename_i u hu
    cases h
    exact ZJ hx hy hu w
   ·exact aAV hx hy h ox oy w
theorem aAC {P:Program}{op:UnOp}{x v:Value}{ρ:Ren}{x':Value}(hx:VRel ρ x x')(h:aUn op x=some v)(w:World) :
 (Op.unary op x').run P w = .ok v w/\VRel ρ v v:=by
 unfold aUn at h
 split at h <;> cases h <;> cases hx
 ·exact⟨by simp[Op.unary,Op.intArith],.int _ _⟩
 ·exact⟨by simp[Op.unary,Op.intBits],.int _ _⟩
 ·exact⟨by simp[Op.unary],.bool _⟩
theorem SC {P:Program}{ρ:Ren}{cs cs':Array Value}{t:TypeId}{off:Nat}{v:Value}(hr:LRel ρ cs.toList cs'.toList)(h:wR (T5 P t) cs off (P.cellsOf t)=some v)
 (hi:(P.info? t).isSome=true) (w:World):∃ v',(part t cs' off).run P w = .ok v' w/\VRel ρ v v':=by
 obtain⟨i,hi⟩:=Option.isSome_iff_exists.1 hi
 have hsz:P.cellsOf t=i.size:=by simp[Program.cellsOf,hi]
 unfold T5 at h
 cases hu:P.underlying t with
 | none=>simp[hu,wR]at h
 | some d =>
   have key:∀ b,aB5 d=b->pF P t=b:=by
    intro b hb;unfold pF;rw[hu];exact hb
   simp only[hu,Option.map_some]at h
   cases hb:aB5 d with
   | true =>
     rw[hb]at h
     simp only[wR]at h
     cases h
     refine⟨.agg (cs'.extract off (off+i.size)),?_,?_⟩
     ·simp only[part,Sem.run_bind,mG hu,key _ hb,Result.andThen_ok,aO,aV hi,Sem.run_pure]
     ·rw[hsz]
      refine .agg _ _ ?_ fun k v v' a b => ?_
      ·have:=hr.1;simp at this;simp[this]
      ·rw[Array.getElem?_extract]at a b
       split at a
       ·split at b
        ·exact hr.2 (off+k) v v' (by simpa using a) (by simpa using b)
        ·cases b
       ·cases a
   | false =>
     rw[hb]at h
     simp only[wR]at h
     obtain⟨v',p,q⟩:=hr.get (i:=off) (v:=v) (by simpa using h)
     refine⟨v',?_,q⟩
     have p':cs'[off]? = some v':=by simpa using p
     simp only[part,Sem.run_bind,mG hu,key _ hb,Result.andThen_ok,eK,aS,p',Sem.run_pure]
theorem p9 {α β:Type}{l:List α}{f:α->β}{k:Nat}{x:β}(h:(l.map f)[k]? = some x):∃ y,l[k]? = some y/\f y=x:=by
 rw[b8]at h
 cases hl:l[k]? with
 | none=>simp[hl]at h
 | some y=>simp[hl]at h;exact⟨y,rfl,h⟩
theorem TI {P:Program}{ρ:Ren}{t:TypeId}{x x' v:Value}{f:Nat}(hx:VRel ρ x x')(h:AV P t x f=some v)(w:World) :
 ∃ v',(Instr.field t x' f).run P w = .ok v' w/\VRel ρ v v':=by
 unfold AV at h
 split at h
 ·rename_i sz l cs ht
  obtain⟨i,fs,hi,hu,rfl,rfl,_⟩:=uE ht
  obtain⟨ys,rfl,hr⟩:=hx.agg_inv
  split at h
  ·rename_i off size agg hf
   obtain⟨fd,hfd,he⟩:=p9 hf
   cases he
   have hfd':fs[f]? = some fd:=by simpa using hfd
   split at h
   ·cases h
   rename_i hz
   have hs:(P.info? fd.type).isSome=true:=by
    cases hi2:P.info? fd.type with
    | none=>simp[Program.cellsOf,hi2]at hz
    | some j=>rfl
   obtain⟨v',p,q⟩:=SC hr h hs w
   refine⟨v',?_,q⟩
   simp only[Instr.field,Sem.run_bind,aT hu,Result.andThen_ok,hfd',asAgg,Sem.run_pure,p]
  ·cases h
 ·cases h
theorem Q0 {P:Program}{ρ:Ren}{t:TypeId}{x x' y y' v:Value}(hx:VRel ρ x x')(hy:VRel ρ y y')(h:uB P t x y=some v)(w:World) :
 ∃ v',(Instr.index t x' y').run P w = .ok v' w/\VRel ρ v v':=by
 unfold uB at h
 split at h
 ·rename_i n e es sz cs k i ht
  obtain⟨_,j,hi,hu,rfl,hj,rfl,hz⟩:=n9 ht
  obtain⟨ys,rfl,hr⟩:=hx.agg_inv
  cases hy
  split at h
  ·rename_i hb
   have hc:P.cellsOf e=j.size:=by simp[Program.cellsOf,hj]
   obtain⟨v',p,q⟩:=SC (P:=P) (t:=e) hr (by rw[hc];exact h) (by rw[hj];rfl) w
   refine⟨v',?_,q⟩
   simp only[Instr.index,Sem.run_bind,asIntOf,Sem.run_pure,Result.andThen_ok,aT hu,Sem.run_ite,aA hb,aV hj,p]
  ·cases h
 ·rename_i s k i ht
  have hu:=G4 ht
  cases hx;cases hy
  split at h
  ·rename_i h0
   cases hb:s[i.toNat]? with
   | none=>simp[hb]at h
   | some b =>
     simp[hb]at h
     subst h
     refine⟨_,?_,VRel.int _ _⟩
     simp[Instr.index,Sem.run_bind,asIntOf,aT hu,h0,hb]
  ·cases h
 ·cases h
theorem GL {P:Program}{ρ:Ren}{t:TypeId}{x x' v:Value}{f:Nat}(hx:VRel ρ x x')(h:n6 P t x f=some v)(w:World) :
 ∃ v',(Instr.fieldAt t x' f).run P w = .ok v' w/\VRel ρ v v':=by
 unfold n6 at h
 split at h
 ·rename_i sz l a ht
  obtain⟨i,fs,hi,hu,rfl,rfl,_⟩:=uE ht
  obtain⟨b,o,s⟩:=a
  obtain⟨rfl,L,hL,rfl⟩:=uG hx
  split at h
  ·rename_i off size agg hf
   obtain⟨fd,hfd,he⟩:=p9 hf
   cases he
   split at h
   ·cases h
   ·rename_i hz
    cases h
    have hfd':fs[f]? = some fd:=by simpa using hfd
    cases hi2:P.info? fd.type with
    | none=>simp[Program.cellsOf,hi2]at hz
    | some j =>
      have hz':j.size≠0:=by simpa [Program.cellsOf,hi2] using hz
      refine⟨.pointer (some ⟨L.blk,L.off+o+fd.offset,none⟩),?_,?_⟩
      ·simp only[Instr.fieldAt,Sem.run_bind,aT hu,Result.andThen_ok,hfd',Instr.sureAddr,Sem.run_pure,fieldPlace,aV hi2,Sem.run_ite,aC hz',dU]
      ·rw[dU,rJ];exact .ptr hL
  ·cases h
 ·cases h
theorem GX {P:Program}{ρ:Ren}{t:TypeId}{x x' y y' v:Value}(hx:VRel ρ x x')(hy:VRel ρ y y')(h:iL P t x y=some v)(w:World) :
 ∃ v',(Instr.indexAt t x' y').run P w = .ok v' w/\VRel ρ v v':=by
 unfold iL at h
 split at h
 ·rename_i e es eb a len c k i ht
  obtain⟨_,j,hi,hu,hj,rfl,rfl,hz⟩:=fR ht
  cases hy
  obtain⟨b,o,s⟩:=a
  rcases gY hx with⟨rfl,L,o',c',hL,hf,rfl⟩|⟨rfl,rfl,rfl,L,a',hL,rfl⟩
  rotate_left
  ·split at h
   ·omega
   ·cases h
  split at h
  ·rename_i hb
   cases h
   have ho:o'=L.off+o:=by
    rcases hf.2 with⟨h1,_⟩|⟨_,h1,_⟩|⟨_,h1,_⟩
    ·exact h1
    ·exact h1
    ·omega
   subst ho
   refine⟨.pointer (some ⟨L.blk,L.off+o+i.toNat*j.size,none⟩),?_,?_⟩
   ·simp[Instr.indexAt,Sem.run_bind,asIntOf,aT hu,aV hj,hb.1,hb.2,dU]
   ·rw[dU,rJ];exact .ptr hL
  ·cases h
 ·rename_i n e es sz a k i ht
  obtain⟨_,j,hi,hu,rfl,hj,rfl,hz⟩:=n9 ht
  cases hy
  obtain⟨b,o,s⟩:=a
  obtain⟨rfl,L,hL,rfl⟩:=uG hx
  split at h
  ·rename_i hb
   cases h
   refine⟨.pointer (some ⟨L.blk,L.off+o+i.toNat*j.size,none⟩),?_,?_⟩
   ·simp[Instr.indexAt,Sem.run_bind,asIntOf,Instr.sureAddr,aT hu,aV hj,hb.1,hb.2,dU]
   ·rw[dU,rJ];exact .ptr hL
  ·cases h
 ·cases h
theorem RX {P:Program}{ρ:Ren}{t:TypeId}{x x' v:Value}(hx:VRel ρ x x')(h:EW P t x=some v)(w:World) :
 ∃ v',(Instr.arrayAt t x').run P w = .ok v' w/\VRel ρ v v':=by
 unfold EW at h
 split at h
 ·rename_i n e es sz a len c ht
  obtain⟨_,j,hi,hu,rfl,hj,rfl,hz⟩:=n9 ht
  obtain⟨b,o,s⟩:=a
  rcases gY hx with⟨rfl,L,o',c',hL,hf,rfl⟩|⟨rfl,rfl,rfl,L,a',hL,rfl⟩
  rotate_left
  ·split at h
   ·omega
   ·cases h
  split at h
  ·rename_i hb
   cases h
   have ho:o'=L.off+o:=by
    rcases hf.2 with⟨h1,_⟩|⟨_,h1,_⟩|⟨_,h1,_⟩
    ·exact h1
    ·exact h1
    ·omega
   subst ho
   refine⟨.pointer (some ⟨L.blk,L.off+o,none⟩),?_,.ptr hL⟩
   simp[Instr.arrayAt,Sem.run_bind,aT hu,Nat.not_lt.2 hb.2]
  ·cases h
 ·cases h
theorem qE {P:Program}{ρ:Ren}{x x':Value}{y y' r:Nat}(hx:VRel ρ x x')(h:jZ x y=some r)(hy:y<=y')(code:BoundsCode)(w:World) :
 (Instr.sliceBound x' y' code).run P w = .ok r w/\r<=y:=by
 unfold jZ at h
 split at h
 ·rename_i k i
  cases hx
  split at h
  ·rename_i hb
   cases h
   have:0<=i/\i<=(y':Int):=⟨hb.1,by omega⟩
   refine⟨by simp only[Instr.sliceBound,Sem.run_bind,asIntOf,Sem.run_pure,Result.andThen_ok,Sem.run_ite,aA this],by omega⟩
  ·cases h
 ·cases h
def HM (ρ:Ren):Option Value->Option Value->Prop
 | none,none=>True
 | some v,some v'=>VRel ρ v v'
 | _,_=>False
theorem qU {P:Program}{ρ:Ren}{lo hi mx lo' hi' mx':Option Value}{len cap cap' l h m:Nat}(r1:HM ρ lo lo')(r2:HM ρ hi hi')(r3:HM ρ mx mx')
 (hb:eW len cap lo hi mx=some (l,h,m)) (hc:cap<=cap') (isSlice:Bool) (w:World) :
 ∃ m',(Instr.sliceBounds isSlice len cap' lo' hi' mx').run P w = .ok (l,h,m') w/\((mx=none/\m=cap/\m'=cap')\/(m'=m/\m<=cap))/\l<=h/\(len<=cap->h<=m):=by
 unfold eW at hb
 cases mx with
 | none =>
   cases mx' with
   | some _=>exact r3.elim
   | none =>
   refine⟨cap',?_⟩
   cases hi with
   | none =>
     cases hi' with
     | some _=>exact r2.elim
     | none =>
     cases lo with
     | none =>
       cases lo' with
       | some _=>exact r1.elim
       | none =>
       simp at hb
       obtain⟨rfl,rfl,rfl⟩:=hb
       exact⟨by simp[Instr.sliceBounds],.inl ⟨rfl,rfl,rfl⟩,eJ _,fun h=>h⟩
     | some v =>
       cases lo' with
       | none=>exact r1.elim
       | some v' =>
       cases hq:jZ v len with
       | none=>simp[hq]at hb
       | some q =>
         simp[hq]at hb
         obtain⟨rfl,rfl,rfl⟩:=hb
         obtain⟨g1,g2⟩:=qE (P:=P) r1 hq (aF _) .sliceB w
         exact⟨by simp[Instr.sliceBounds,g1],.inl ⟨rfl,rfl,rfl⟩,g2,fun h=>h⟩
   | some u =>
     cases hi' with
     | none=>exact r2.elim
     | some u' =>
     cases hp:jZ u cap with
     | none=>simp[hp]at hb
     | some p =>
     obtain⟨k1,k2⟩:=qE (P:=P) r2 hp hc (if isSlice then .sliceAcap else .sliceAlen) w
     cases lo with
     | none =>
       cases lo' with
       | some _=>exact r1.elim
       | none =>
       simp[hp]at hb
       obtain⟨rfl,rfl,rfl⟩:=hb
       exact⟨by simp[Instr.sliceBounds,k1],.inl ⟨rfl,rfl,rfl⟩,eJ _,fun _=>k2⟩
     | some v =>
       cases lo' with
       | none=>exact r1.elim
       | some v' =>
       cases hq:jZ v p with
       | none=>simp[hp,hq]at hb
       | some q =>
         simp[hp,hq]at hb
         obtain⟨rfl,rfl,rfl⟩:=hb
         obtain⟨g1,g2⟩:=qE (P:=P) r1 hq (aF _) .sliceB w
         exact⟨by simp[Instr.sliceBounds,k1,g1],.inl ⟨rfl,rfl,rfl⟩,g2,fun _=>k2⟩
 | some y =>
   cases mx' with
   | none=>exact r3.elim
   | some y' =>
   cases hm:jZ y cap with
   | none=>simp[hm]at hb
   | some m0 =>
   obtain⟨j1,j2⟩:=qE (P:=P) r3 hm hc (if isSlice then .slice3Acap else .slice3Alen) w
   refine⟨m0,?_⟩
   cases hi with
   | none=>simp[hm]at hb
   | some u =>
     cases hi' with
     | none=>exact r2.elim
     | some u' =>
     cases hp:jZ u m0 with
     | none=>simp[hm,hp]at hb
     | some p =>
     obtain⟨k1,k2⟩:=qE (P:=P) r2 hp (aF _) .slice3B w
     cases lo with
     | none =>
       cases lo' with
       | some _=>exact r1.elim
       | none =>
       simp[hm,hp]at hb
       obtain⟨rfl,rfl,rfl⟩:=hb
       exact⟨by simp[Instr.sliceBounds,j1,k1],.inr ⟨rfl,j2⟩,eJ _,fun _=>k2⟩
     | some v =>
       cases lo' with
       | none=>exact r1.elim
       | some v' =>
       cases hq:jZ v p with
       | none=>simp[hm,hp,hq]at hb
       | some q =>
         simp[hm,hp,hq]at hb
         obtain⟨rfl,rfl,rfl⟩:=hb
         obtain⟨g1,g2⟩:=qE (P:=P) r1 hq (aF _) .slice3C w
         exact⟨by simp[Instr.sliceBounds,j1,k1,g1],.inr ⟨rfl,j2⟩,g2,fun _=>k2⟩
theorem SU {P:Program}{base:Nat}{w0:World}{A:Nat->Prop}{ρ:Ren}{H:aD}{w:World}(S:Sim base w0 A ρ H w){t:TypeId}{x x' v:Value}{lo hi mx lo' hi' mx':Option Value}
 (hx:VRel ρ x x') (r1:HM ρ lo lo') (r2:HM ρ hi hi') (r3:HM ρ mx mx') (h:sX P t x lo hi mx H=some v) :
 ∃ v',(Instr.sliceAt t x' lo' hi' mx').run P w = .ok v' w/\VRel ρ v v':=by
 unfold sX at h
 split at h
 ·rename_i s ht
  have hu:=G4 ht
  cases hx
  cases mx with
  | some y=>simp at h
  | none =>
  cases mx' with
  | some _=>exact r3.elim
  | none =>
  cases hb:eW s.size s.size lo hi none with
  | none=>simp[hb]at h
  | some lhm =>
    obtain⟨l,hh,m⟩:=lhm
    simp[hb]at h
    subst h
    obtain⟨m',g1,_⟩:=qU (P:=P) (mx:=none) (mx':=none) r1 r2 r3 hb (aF _) false w
    exact⟨_,by simp[Instr.sliceAt,Instr.slice,Sem.run_bind,aT hu,g1],VRel.string _⟩
 ·rename_i e es eb len cap ht
  obtain⟨_,j,_,hu,hj,rfl,rfl,hz⟩:=fR ht
  cases hx
  cases hb:eW len cap lo hi mx with
  | none=>simp[hb]at h
  | some lhm =>
    obtain⟨l,hh,m⟩:=lhm
    simp[hb]at h
    subst h
    obtain⟨m',g1,g2,_⟩:=qU (P:=P) r1 r2 r3 hb (aF _) true w
    have hmm:m'=m:=by rcases g2 with⟨_,a,b⟩|⟨a,_⟩ <;> omega
    subst hmm
    refine⟨.slice none (hh-l) (m'-l),?_,.nilslice _ _⟩
    simp[Instr.sliceAt,Instr.slice,Sem.run_bind,aT hu,g1,aV hj]
 ·rename_i e es eb a len cap ht
  obtain⟨_,j,_,hu,hj,rfl,rfl,hz⟩:=fR ht
  obtain⟨b,o,s⟩:=a
  rcases gY hx with⟨rfl,L,o',c',hL,hf,rfl⟩|⟨rfl,rfl,rfl,L,a',hL,rfl⟩
  rotate_left
  ·cases hb:eW 0 0 lo hi mx with
   | none=>simp[hb]at h
   | some lhm =>
     obtain⟨l,hh,m⟩:=lhm
     cases hB:H[b]? with
     | none=>simp[hb,hB]at h
     | some B =>
     simp only[hb,hB]at h
     obtain⟨m',g1,g2,g3,g4⟩:=qU (P:=P) r1 r2 r3 hb (aF _) true w
     have g4:=g4 (aF _)
     have e1:hh-l=0:=by rcases g2 with⟨_,a,b⟩|⟨a,b⟩ <;> omega
     have e2:m-l=0:=by rcases g2 with⟨_,a,b⟩|⟨a,b⟩ <;> omega
     have e3:m'-l=0:=by rcases g2 with⟨_,a,b⟩|⟨a,b⟩ <;> omega
     have ev:∃ o2,v = .slice (some ⟨b,o2,none⟩) 0 0:=by
      rw[e1,e2,dU]at h
      split at h
      ·cases h
       by_cases hml:m=l
       ·rw[aA hml];exact⟨_,rfl⟩
       ·rw[aC hml];exact⟨_,rfl⟩
      ·split at h
       ·cases h;exact⟨_,rfl⟩
       ·cases h
     obtain⟨o2,rfl⟩:=ev
     refine⟨.slice (some (if m'=l then a' else a'.add (l*j.size))) (hh-l) (m'-l),?_,?_⟩
     ·by_cases he:m'=l
      ·simp[Instr.sliceAt,Instr.slice,Sem.run_bind,aT hu,g1,aV hj,he]
      ·simp[Instr.sliceAt,Instr.slice,Sem.run_bind,aT hu,g1,aV hj,he]
     ·rw[e1,e3];exact .empty _ hL
  cases hb:eW len cap lo hi mx with
  | none=>simp[hb]at h
  | some lhm =>
    obtain⟨l,hh,m⟩:=lhm
    cases hB:H[b]? with
    | none=>simp[hb,hB]at h
    | some B =>
    have hst:=S.stat b L B hL hB
    simp only[hb,hB]at h
    have hcc:cap<=c':=by
     rcases hf.2 with⟨_,h1⟩|⟨_,_,_,h1,_⟩|⟨_,_,h1,h2⟩ <;> omega
    obtain⟨m',g1,g2,g3,g4⟩:=qU (P:=P) r1 r2 r3 hb hcc true w
    have g4:=g4 hf.1
    have hlm:hh-l<=m-l:=by omega
    have run:(Instr.sliceAt t (.slice (some ⟨L.blk,o',none⟩) len c') lo' hi' mx').run P w =
     .ok (.slice (some (if m'=l then⟨L.blk,o',none⟩else⟨L.blk,o'+l*j.size,none⟩)) (hh-l) (m'-l)) w:=by
     by_cases he:m'=l
     ·simp[Instr.sliceAt,Instr.slice,Sem.run_bind,aT hu,g1,aV hj,he]
     ·simp[Instr.sliceAt,Instr.slice,Sem.run_bind,aT hu,g1,aV hj,he,dU]
    refine⟨_,run,?_⟩
    split at h
    ·rename_i hex
     cases h
     have hL':L.exact=true:=by rw[<- hst.2.1];exact hex
     have⟨ho,hc⟩:o'=L.off+o/\c'=cap:=by
      rcases hf.2 with h1|⟨h1,_⟩|⟨h1,_⟩
      ·exact h1
      ·rw[hL']at h1;cases h1
      ·rw[hL']at h1;cases h1
     have hmm:m'=m:=by rcases g2 with⟨_,a,b⟩|⟨a,_⟩ <;> omega
     subst hmm;subst ho
     by_cases he:m'=l
     ·simp only[he,aO]
      exact .slice hL ⟨he▸hlm,.inl ⟨rfl,rfl⟩⟩
     ·simp only[he,aS,dU]
      exact .slice hL ⟨hlm,.inl ⟨by omega,rfl⟩⟩
    ·rename_i hex
     split at h
     ·rename_i hes
      cases h
      have hL':L.exact=false:=by rw[<- hst.2.1];simpa using hex
      have hLes:L.es=j.size:=by rw[<- hst.2.2.1];exact hes
      rw[dU]
      by_cases he:m'=l
      ·simp only[he,aO,Nat.sub_self]
       have hm0:m-l=0:=by rcases g2 with⟨_,a,b⟩|⟨a,_⟩ <;> omega
       have hh0:hh-l=0:=by omega
       rw[hm0,hh0]
       exact .slice hL ⟨aF _,.inr (.inr ⟨hL',rfl,rfl,rfl⟩)⟩
      ·simp only[he,aS]
       rcases hf.2 with⟨ho,hc⟩|⟨_,ho,hn,hc,hr⟩|⟨_,h1,h2,h3⟩
       ·subst ho;subst hc
        have hmm:m'=m:=by rcases g2 with⟨_,a,b⟩|⟨a,_⟩ <;> omega
        subst hmm
        exact .slice hL ⟨hlm,.inl ⟨by omega,rfl⟩⟩
       ·subst ho
        rcases g2 with⟨_,a,b⟩|⟨a,_⟩
        ·subst a;subst b
         refine .slice hL ⟨hlm,.inr (.inl ⟨hL',by omega,?_,by omega,?_⟩)⟩
         ·have:l<=m:=by omega
          rw[hLes]at hn⊢
          rw[Nat.sub_mul]
          have:=uO j.size this
          omega
         ·have:l<=m:=by omega
          rw[show m'-l-(m-l)=m'-m by omega]
          exact hr
        ·subst a
         exact .slice hL ⟨hlm,.inl ⟨by omega,rfl⟩⟩
       ·exfalso;have:=hf.1;rcases g2 with⟨_,a,b⟩|⟨a,_⟩ <;> omega
     ·cases h
 ·rename_i n e es sz a ht
  obtain⟨_,j,_,hu,rfl,hj,rfl,hz⟩:=n9 ht
  obtain⟨b,o,s⟩:=a
  obtain⟨rfl,L,hL,rfl⟩:=uG hx
  cases hb:eW n n lo hi mx with
  | none=>simp[hb]at h
  | some lhm =>
    obtain⟨l,hh,m⟩:=lhm
    cases hB:H[b]? with
    | none=>simp[hb,hB]at h
    | some B =>
    have hst:=S.stat b L B hL hB
    simp only[hb,hB]at h
    obtain⟨m',g1,g2,g3,g4⟩:=qU (P:=P) r1 r2 r3 hb (aF _) false w
    have g4:=g4 (aF _)
    have hlm:hh-l<=m-l:=by omega
    have hmm:m'=m:=by rcases g2 with⟨_,a,b⟩|⟨a,_⟩ <;> omega
    subst hmm
    split at h
    ·cases h
     by_cases he:m'=l
     ·refine⟨.slice (some ⟨L.blk,L.off+o,none⟩) (hh-l) (m'-l),?_,?_⟩
      ·simp[Instr.sliceAt,Sem.run_bind,aT hu,g1,aV hj,he,Instr.sureAddr]
      ·simp only[he,aO];exact .slice hL ⟨he▸hlm,.inl ⟨rfl,rfl⟩⟩
     ·refine⟨.slice (some ⟨L.blk,L.off+o+l*j.size,none⟩) (hh-l) (m'-l),?_,?_⟩
      ·simp[Instr.sliceAt,Sem.run_bind,aT hu,g1,aV hj,he,Instr.sureAddr,dU]
      ·simp only[he,aS,dU];exact .slice hL ⟨hlm,.inl ⟨by omega,rfl⟩⟩
    ·cases h
 ·cases h
end Go.Mach
namespace Go.Mach
open IntKind (i8 i16 i32 i64 u8 u16 u32 u64)
theorem DK (off:Nat):∀ (l:List Value) (k:Nat) (cells:Array Value),
 (l.zipIdx k).foldl (fun cs (p:Value×Nat)=>cs.setIfInBounds (off+p.2) p.1) cells=(setCells cells.toList (off+k) l).toArray
 | [],_,cells=>by simp[setCells]
 | v::l,k,cells=>by
   rw[List.zipIdx_cons,List.foldl_cons,DK off l (k+1)]
   simp[setCells,rJ]
theorem ZT (off:Nat)(vs:Array Value)(cells:Array Value) :
 (vs.zipIdx.foldl (fun cs (p:Value×Nat)=>cs.setIfInBounds (off+p.2) p.1) cells)=(setCells cells.toList off vs.toList).toArray:=by
 rw[<- Array.foldl_toList,Array.toList_zipIdx,DK off vs.toList 0 cells]
 simp
theorem u0 {ρ:Ren}(place:Nat->Option (Nat×Nat)):∀ (parts parts':List (Nat×Value)) (cs r:List Value) (cs':Array Value),LRel ρ cs cs'.toList ->
 parts.map (·.1)=parts'.map (·.1)->LRel ρ (parts.map (·.2)) (parts'.map (·.2))->rS place cs parts=some r->∃ r',Instr.fill place cs' parts'=some r'/\LRel ρ r r'.toList
 | [],parts',cs,r,cs',hr,h1,_,h=>by
   cases parts' with
   | nil=>cases h;exact⟨cs',rfl,hr⟩
   | cons p l=>simp at h1
 | (i,v)::parts,parts',cs,r,cs',hr,h1,h2,h=>by
   cases parts' with
   | nil=>simp at h1
   | cons p l =>
     obtain⟨i',v'⟩:=p
     simp only[List.map_cons,List.cons.injEq]at h1
     obtain⟨rfl,h1⟩:=h1
     simp only[List.map_cons]at h2
     obtain⟨y,ys,he,hv,ht⟩:=h2.inv
     simp only[List.cons.injEq]at he
     obtain⟨rfl,rfl⟩:=he
     simp only[rS]at h
     simp only[Instr.fill]
     cases hp:place i with
     | none=>simp[hp]at h
     | some os =>
       obtain⟨off,size⟩:=os
       simp only[hp]at h
       have hsz:v'.cells.size=v.cells.size:=by have:=hv.cells.1;simpa using this.symm
       have hl:cs'.size=cs.length:=by have:=hr.1;simpa using this.symm
       split at h
       ·rename_i hc
        have hn : ¬ ((decide (v'.cells.size≠size)||decide (off+v'.cells.size>cs'.size))=true):=by
         grind
        simp only[hn]
        rw[aC (by simp),ZT]
        exact u0 place parts l _ r _ (by simpa using LRel.setCells _ _ _ _ off hr hv.cells) h1 ht h
       ·cases h
theorem lL (z:Array Value)(n:Nat):(madeCells z n).toList=dW z.toList n:=by
 simp only[madeCells,dW,Array.toList_map,Array.toList_range,Array.length_toList]
 grind
theorem xP {z:List Value}(h:z.all fX=true)(n:Nat):(dW z n).all fX=true:=by
 simp only[dW,List.all_map,bW,qW,Function.comp]
 intro i _
 cases hz:z[i%z.length]? with
 | none=>rw[List.getElem!_eq_getElem?_getD,hz];rfl
 | some v=>grind
theorem tZ (z:List Value)(n:Nat):(dW z n).length=n:=by simp[dW]
section
variable {P:Program} {base:Nat} {w0:World} {A W:Nat->Prop} {fl:Nat} {ρ:Ren} {H:aD} {w:World}
def Done (P:Program)(base:Nat)(w0:World)(A W:Nat->Prop)(fl:Nat)(ρ:Ren)(H:aD)(w:World)(s:Sem Next)(r:tG)(H':aD):Prop :=
 ∃ ρ' r' w',s.run P w = .ok r' w'/\aIU ρ' r r'/\Step base w0 A W fl ρ H w ρ' H' w'
theorem Done.same (S:Sim base w0 A ρ H w){s:Sem Value}{v v':Value}(h:s.run P w = .ok v' w)(hr:VRel ρ v v') :
 Done P base w0 A W fl ρ H w (do pure (.value (<- s))) (.value v) H :=
 ⟨ρ,.value v',w,by simp[h],hr,Step.same S ⟨rfl,rfl,rfl,rfl⟩⟩
theorem I5 (t:TypeId)(v:Value):(newVar t v).run P w = .ok ⟨w.heap.size,0,none⟩ { w with heap:=w.heap.push (.cells v.cells t) }:=by
 simp[newVar,newRow]
theorem Q2 (S:Sim base w0 A ρ H w)(hb:base<=H.length)(hfr:ρ H.length=none){t:TypeId}{cs:List Value}(h:cS P t=some cs) :
 Done P base w0 A W fl ρ H w (do pure (.value (<- Instr.alloc t true (.tuple #[])))) (.value (.pointer (some ⟨H.length,0,none⟩))) (H++[⟨cs,0,true,true⟩]):=by
 obtain⟨i,z,hi,hz,rfl,hp⟩:=jQ h
 refine⟨_,.value (.pointer (some ⟨w.heap.size,0,none⟩)),{ w with heap:=w.heap.push (.cells z.cells t) },?_,?_,
  Step.new_block S hfr hb z.cells.toList z.cells t (0,0) 0 true ⟨rfl,rfl,rfl,rfl⟩ (by simp) (by simp) (.inl rfl) fun i v hv => ?_⟩
 ·simp[Instr.alloc,dY hi hz,I5]
 ·have:=bC ρ H.length ⟨w.heap.size,0,z.cells.size,z.cells.toList.length,0,true⟩
  exact .ptr (o:=0) this
 ·exact⟨v,by simpa using hv,VRel.plain (List.all_eq_true.1 hp v (fW hv))⟩
theorem ZV (S:Sim base w0 A ρ H w)(hb:base<=H.length)(hfr:ρ H.length=none){t:TypeId}{v v':Value}(hv:VRel ρ v v') :
 Done P base w0 A W fl ρ H w (do pure (.value (<- Instr.box t v'))) (.value (.pointer (some ⟨H.length,0,none⟩))) (H++[⟨v.cells.toList,0,true,true⟩]):=by
 have hl:=hv.cells.1
 simp only[Array.length_toList]at hl
 refine⟨_,.value (.pointer (some ⟨w.heap.size,0,none⟩)),{ w with heap:=w.heap.push (.cells v'.cells t) },?_,?_,
  Step.new_block S hfr hb v.cells.toList v'.cells t (0,0) 0 true ⟨rfl,rfl,rfl,rfl⟩ (by simp[hl]) (by simp[hl]) (.inl rfl) fun i u hu => ?_⟩
 ·simp[Instr.box,I5]
 ·have:=bC ρ H.length ⟨w.heap.size,0,v'.cells.size,v.cells.toList.length,0,true⟩
  exact .ptr (o:=0) this
 ·obtain⟨u',p,q⟩:=hv.cells.get hu
  exact⟨u',by simpa using p,q⟩
theorem yF {ev cev:Operand->Value}:∀ (parts:List (Nat×Operand)),(∀ p∈parts,VRel ρ (ev p.2) (cev p.2)) ->
 LRel ρ ((parts.map fun p=>(p.1,ev p.2)).map (·.2)) ((parts.map fun p=>(p.1,cev p.2)).map (·.2))
 | [],_=>LRel.nil ρ
 | p::l,h=>LRel.cons (h p (cN ..)) (yF l fun q hq=>h q (dA _ hq))
theorem DU {ev cev:Operand->Value}(parts:List (Nat×Operand)):(parts.map fun p=>(p.1,ev p.2)).map (·.1)=(parts.map fun p=>(p.1,cev p.2)).map (·.1):=by
 simp
theorem JU:∀ (fs:List Field),(∀ f∈fs,(P.info? f.type).isSome=true) ->
 (fs.mapM (m:=Sem) fun f=>do pure (f.offset,<- sizeOf f.type)).run P w = .ok (fs.map fun f=>(f.offset,P.cellsOf f.type)) w
 | [],_=>by simp
 | f::fs,h=>by
   obtain⟨i,hi⟩:=Option.isSome_iff_exists.1 (h f (cN ..))
   have:=JU fs fun g hg=>h g (dA _ hg)
   have hs:P.cellsOf f.type=i.size:=by simp[Program.cellsOf,hi]
   simp only[List.mapM_cons,Sem.run_bind,aV hi,Result.andThen_ok,Sem.run_pure,this,hs,List.map_cons]
theorem AJ (S:Sim base w0 A ρ H w){t:TypeId}{sz:Nat}{fs:List (Nat×Nat×Option Bool)}{z cs:List Value}{parts:List (Nat×Operand)}{ev cev:Operand->Value}
 (ht:aTy P t = .struct sz fs) (hz:cS P t=some z) (hp:∀ p∈parts,VRel ρ (ev p.2) (cev p.2))
 (h:rS (fun i=>(fs[i]?).map fun f=>(f.1,f.2.1)) z (parts.map fun p=>(p.1,ev p.2))=some cs) :
 Done P base w0 A W fl ρ H w (do pure (.value (<- Instr.build t (parts.map fun p=>(p.1,cev p.2)).toArray))) (.value (.agg cs.toArray)) H:=by
 obtain⟨i,fds,hi,hu,rfl,rfl,hall⟩:=uE ht
 obtain⟨i',zv,hi',hzv,rfl,hpl⟩:=jQ hz
 obtain⟨r',h1,h2⟩:=u0 _ _ _ _ _ zv.cells (LRel.plain hpl) (DU (cev:=cev) parts) (yF parts hp) h
 refine Done.same S (v' := .agg r') ?_ ?_
 ·have hpl:=JU (P:=P) (w:=w) fds.toList hall
  have hpl':(fds.mapM (m:=Sem) fun f=>do pure (f.offset,<- sizeOf f.type)).run P w = .ok (fds.map fun f=>(f.offset,P.cellsOf f.type)) w:=by
   rw[Array.mapM_eq_mapM_toList,Sem.run_map,hpl]
   simp only[Result.andThen_ok]
   congr 1
   apply zE
   simp
  have hpe:(fun i:Nat=>((fds.toList.map fun f=>(f.offset,P.cellsOf f.type,T5 P f.type))[i]?).map fun(f:Nat×Nat×Option Bool)=>(f.1,f.2.1))=fun i:Nat=>(fds.map fun f=>(f.offset,P.cellsOf f.type))[i]? := by
   grind
  rw[hpe]at h1
  simp only[Instr.build,Sem.run_bind,dY hi' hzv,Result.andThen_ok,aT hu,hpl',h1,Sem.run_pure]
 ·have:=VRel.agg_of h2
  simpa using this
theorem CU (S:Sim base w0 A ρ H w){t:TypeId}{n e es sz:Nat}{z cs:List Value}{parts:List (Nat×Operand)}{ev cev:Operand->Value}
 (ht:aTy P t = .array n e es sz) (hz:cS P t=some z) (hp:∀ p∈parts,VRel ρ (ev p.2) (cev p.2))
 (h:rS (fun i=>some (i*es,es)) z (parts.map fun p=>(p.1,ev p.2))=some cs) :
 Done P base w0 A W fl ρ H w (do pure (.value (<- Instr.build t (parts.map fun p=>(p.1,cev p.2)).toArray))) (.value (.agg cs.toArray)) H:=by
 obtain⟨i,j,hi,hu,rfl,hj,rfl,_⟩:=n9 ht
 obtain⟨i',zv,hi',hzv,rfl,hpl⟩:=jQ hz
 obtain⟨r',h1,h2⟩:=u0 _ _ _ _ _ zv.cells (LRel.plain hpl) (DU (cev:=cev) parts) (yF parts hp) h
 refine Done.same S (v' := .agg r') ?_ ?_
 ·simp only[Instr.build,Sem.run_bind,dY hi' hzv,Result.andThen_ok,aT hu,aV hj,h1,Sem.run_pure]
 ·have:=VRel.agg_of h2
  simpa using this
theorem E0 (S:Sim base w0 A ρ H w)(hb:base<=H.length)(hfr:ρ H.length=none){t:TypeId}{e es eb len:Nat}{z cs:List Value}{parts:List (Nat×Operand)}{ev cev:Operand->Value}
 (ht:aTy P t = .slice e es eb) (hlen:len*es<=2 ^ 20) (hz:cS P e=some z) (hp:∀ p∈parts,VRel ρ (ev p.2) (cev p.2))
 (h:rS (fun i=>some (i*es,es)) (dW z (len*es)) (parts.map fun p=>(p.1,ev p.2))=some cs) :
 Done P base w0 A W fl ρ H w (do pure (.value (<- Instr.buildSlice t len (parts.map fun p=>(p.1,cev p.2)).toArray))) (.value (.slice (some ⟨H.length,0,none⟩) len len)) (H++[⟨cs,es,true,true⟩]):=by
 obtain⟨i,j,hi,hu,hj,rfl,rfl,_⟩:=fR ht
 obtain⟨i',zv,hi',hzv,rfl,hpl⟩:=jQ hz
 have hn : ¬ len*j.size>2 ^ 24:=by omega
 obtain⟨r',h1,h2⟩:=u0 _ _ _ _ _ (madeCells zv.cells (len*j.size)) (by rw[lL];exact LRel.plain (xP hpl _)) (DU (cev:=cev) parts) (yF parts hp) h
 have hsz:=h2.1
 simp only[Array.length_toList]at hsz
 refine⟨_,.value (.slice (some ⟨w.heap.size,0,none⟩) len len),{ w with heap:=w.heap.push (.cells r' e) },?_,?_,
  Step.new_block S hfr hb cs r' e (0,0) j.size true ⟨rfl,rfl,rfl,rfl⟩ (by omega) (fun _=>hsz) (.inl rfl) fun i u hu => ?_⟩
 ·have hcells:((Array.range (len*j.size)).map fun x=>(if len*j.size=0 then #[]else zv.cells)[x%(if len*j.size=0 then #[]else zv.cells).size]!)=madeCells zv.cells (len*j.size):=by
   by_cases h0:len*j.size=0
   ·rw[h0];simp[madeCells]
   ·simp[h0,madeCells]
  by_cases h0:len*j.size=0
  ·simp only[h0,aO]at hcells
   simp only[Instr.buildSlice,Sem.run_bind,aT hu,Result.andThen_ok,aV hj,Sem.run_ite,h0,aO,Sem.run_pure]
   rw[aC (by simp)]
   rw[hcells]
   rw[h0]at h1
   simp[h1,newRow]
  ·simp only[h0,aS]at hcells
   simp only[Instr.buildSlice,Sem.run_bind,aT hu,Result.andThen_ok,aV hj,hn,Sem.run_ite,aS,h0,Sem.run_pure,dY hi' hzv]
   rw[hcells]
   simp[h1,newRow]
 ·have:=bC ρ H.length ⟨w.heap.size,0,r'.size,cs.length,j.size,true⟩
  exact .slice (o:=0) this ⟨aF _,.inl ⟨rfl,rfl⟩⟩
 ·obtain⟨u',p,q⟩:=h2.get hu
  exact⟨u',by simpa using p,q⟩
theorem GJ (S:Sim base w0 A ρ H w)(hb:base<=H.length)(hfr:ρ H.length=none){t:TypeId}{e es eb:Nat}{kl kc:IntKind}{l c:Int}{z:List Value}
 (ht:aTy P t = .slice e es eb) (hlc:0<=l/\l<=c/\c<=2 ^ 46/\eb*c<=2 ^ 46) (hz:cS P e=some z) :
 Done P base w0 A W fl ρ H w (do pure (.value (<- Instr.makeSlice t (.int kl l) (.int kc c)))) (.value (.slice (some ⟨H.length,0,none⟩) l.toNat c.toNat)) (H++[⟨dW z (c.toNat*es),es,true,true⟩]):=by
 obtain⟨i,j,hi,hu,hj,rfl,rfl,_⟩:=fR ht
 obtain⟨i',zv,hi',hzv,rfl,hpl⟩:=jQ hz
 rw[hj]at hi';cases hi'
 have hr:=run_make (P:=P) w t e j zv hu hj hzv kl kc l c hlc.1 hlc.2.1 (by omega) (by omega)
 refine⟨_,.value (.slice (some ⟨w.heap.size,0,none⟩) l.toNat c.toNat),w.alloc (.cells (madeCells zv.cells (c.toNat*j.size)) e),by simp[hr],?_,
  Step.new_block S hfr hb _ (madeCells zv.cells (c.toNat*j.size)) e (0,0) j.size true ⟨rfl,rfl,rfl,rfl⟩ (by simp[tZ,size_madeCells]) (fun _=>by simp[tZ,size_madeCells]) (.inl rfl) fun i u hu => ?_⟩
 ·have:=bC ρ H.length ⟨w.heap.size,0,(madeCells zv.cells (c.toNat*j.size)).size,(dW zv.cells.toList (c.toNat*j.size)).length,j.size,true⟩
  exact .slice (o:=0) this ⟨by omega,.inl ⟨rfl,rfl⟩⟩
 ·refine⟨u,?_,VRel.plain (List.all_eq_true.1 (xP hpl _) u (fW hu))⟩
  rw[<- nF,lL]
  exact hu
theorem oC (S:Sim base w0 A ρ H w)(hbf:base<=fl){b o:Nat}{L:Loc}{vs vs':List Value}{H':aD}(hA:vs≠[]->A b/\W b)(hL:ρ b=some L)
 (hv:LRel ρ vs vs') (h:storeAt fl H ⟨b,o,none⟩ vs=some H') :
 ∃ w',(storeCells ⟨L.blk,L.off+o,none⟩ vs').run P w = .ok () w'/\Step base w0 A W fl ρ H w ρ H' w':=by
 cases vs with
 | nil =>
   rw[hv.inv_nil]
   cases h
   exact⟨w,by simp[storeCells],Step.same S ⟨rfl,rfl,rfl,rfl⟩⟩
 | cons v vs =>
   simp only[storeAt]at h
   obtain⟨hA,hW⟩:=hA (by simp)
   cases hB:blk? H b with
   | none=>simp[hB]at h
   | some B =>
     simp only[hB]at h
     split at h
     ·rename_i hc
      cases h
      obtain⟨cc,e,fz,h1,h2,h3,h4⟩:=S.cont b L B hA hL hB
      have hst:=S.stat b L B hL (blk?_some hB).1
      have hlen:=hv.1
      have hone:vs'.all Value.oneCell'=true:=by
       rw[bW]
       intro x hx
       obtain⟨i,hi⟩:=List.getElem?_of_mem hx
       have hi':i<(v::vs).length:=by
        have:=(List.getElem?_eq_some_iff.1 hi).1;omega
       have:=hv.2 i _ x (aM hi') hi
       rw[this.oneCell]
       exact List.all_eq_true.1 hc.2.2 _ (lO hi')
      obtain⟨w',p,q⟩:=iO P L.blk (L.off+o) e fz vs' 0 cc w h1 (by omega) (LD (h3 (by omega))) hone
      exact⟨w',p,Step.store S hbf hA hW hc.1 hL hB hv h1 q⟩
     ·cases h
end
end Go.Mach
namespace Go.Mach
open IntKind (i8 i16 i32 i64 u8 u16 u32 u64)
section
variable {P:Program} {base:Nat} {w0:World} {A W:Nat->Prop} {fl:Nat} {ρ:Ren} {H:aD} {w:World}
theorem YV {w w1:World}(h:w1.heap=w.heap)(a:Addr):w1.cell? a=w.cell? a:=by simp[World.cell?,h]
theorem NN {x x':Value}{m:Nat}(hx:VRel ρ x x')(h:EF x=some m)(w:World):(Builtin.lenOf x').run P w = .ok m w:=by
 cases hx <;> simp only[EF]at h <;> cases h <;> rfl
theorem p8 (S:Sim base w0 A ρ H w){x x':Value}{es m:Nat}{new:List Value}(hx:VRel ρ x x')(hm:∀ l,EF x=some l->m<=l)
 (hA:∀ b∈bK x,A b) (h:cU H es m x=some new) :
 ∃ new':List Value,(∀ w1:World,w1.heap=w.heap->(Builtin.firstCells es m x').run P w1 = .ok new'.toArray w1)/\LRel ρ new new'/\new.length=m*es:=by
 unfold cU at h
 split at h
 ·rename_i a n c
  obtain⟨b,o,s⟩:=a
  rcases gY hx with⟨rfl,L,o',c',hL,hf,rfl⟩|⟨rfl,rfl,rfl,L,a',hL,rfl⟩
  rotate_left
  ·have hm0:m=0:=by have:=hm 0 rfl;omega
   subst hm0
   rw[aA (by simp)]at h
   cases h
   refine⟨[],fun w1 _ => ?_,LRel.nil ρ,by simp⟩
   simp[Builtin.firstCells,loadCells,loadCellsFrom]
  split at h
  ·rename_i h0
   cases h
   refine⟨[],fun w1 _ => ?_,LRel.nil ρ,by simp[h0]⟩
   simp only[Builtin.firstCells,h0]
   simp[loadCells,loadCellsFrom]
  ·rename_i h0
   have hm0:0<m:=Nat.pos_of_ne_zero fun e=>h0 (by rw[e];simp)
   have hml:=hm n rfl
   have ho:o'=L.off+o:=by
    rcases hf.2 with⟨h1,_⟩|⟨_,h1,_⟩|⟨_,h1,_⟩
    ·exact h1
    ·exact h1
    ·omega
   subst ho
   obtain⟨cs',hr,hl,hw⟩:=DR S (hA b (by simp[bK])) hL h
   refine⟨cs',fun w1 hw1 => ?_,hr,hl⟩
   have hlen:cs'.length=m*es:=by rw[<- hr.1,hl]
   exact run_firstCells_some (P:=P) w1 es m _ n c' cs' hlen fun j v hv=>by rw[YV hw1];exact hw j v hv
 ·split at h
  ·rename_i h0
   cases h
   cases hx
   exact⟨[],fun w1 _=>by simp[Builtin.firstCells],LRel.nil ρ,by simp[h0]⟩
  ·cases h
 ·rename_i s
  cases hx
  split at h
  ·rename_i he
   subst he
   cases h
   have:=hm s.size rfl
   have h2:(s.extract 0 m).size=m:=by rw[ByteArray.size_extract];omega
   simp only[Builtin.firstCells]
   generalize s.extract 0 m=c at h2⊢
   refine⟨c.data.toList.map fun b => .int .u8 b.toNat,fun w1 _ => ?_,LRel.plain ?_,?_⟩
   ·simp only[Sem.run_pure]
    congr 1
    apply zE
    simp
   ·rw[bW]
    intro v hv
    obtain⟨b,_,rfl⟩:=List.mem_map.1 hv
    rfl
   ·simp_all
  ·cases h
 ·cases h
theorem JA (S:Sim base w0 A ρ H w){es:Nat}{ba:Option Addr}{H':aD}(hW:∀ a,ba=some a->W a.block)(h:nO fl H es ba=some H') :
 Step base w0 A W fl ρ H w ρ H' w/\H'.length=H.length:=by
 unfold nO at h
 split at h
 ·cases h;exact⟨Step.same S ⟨rfl,rfl,rfl,rfl⟩,rfl⟩
 ·rename_i a
  split at h
  ·rename_i B hB
   split at h
   ·cases h;exact⟨Step.same S ⟨rfl,rfl,rfl,rfl⟩,rfl⟩
   ·split at h
    ·rename_i hc
     cases h
     exact⟨Step.kill S (hW a rfl) hc.2.2 (by simp[blk?,hB,hc.2.1]),by simp⟩
    ·cases h
  ·cases h
theorem OE {xt:TypeId}(h:(aTy P xt = .str)\/(∃ e es eb,aTy P xt = .slice e es eb)):P.underlying xt=some .string\/∃ e,P.underlying xt=some (.slice e):=by
 rcases h with h|⟨e,es,eb,h⟩
 ·exact .inl (G4 h)
 ·obtain⟨i,j,_,h2,_⟩:=fR h;exact .inr ⟨_,h2⟩
theorem jN {st xt ty e:TypeId}{j:TypeInfo}{ats:Array TypeId}{args:Array Value}{base':Option Addr}{n c m:Nat}{x:Value}{new:List Value}{w w':World}
 (hst:ats[0]? = some st) (hxt:ats[1]? = some xt) (hs:args[0]? = some (.slice base' n c)) (hx:args[1]? = some x) (hu:P.underlying st=some (.slice e)) (hj:P.info? e=some j)
 (hux:(aTy P xt = .str)\/(∃ e es eb,aTy P xt = .slice e es eb)) (hl:(Builtin.lenOf x).run P w = .ok m w) (hn:(Builtin.firstCells j.size m x).run P w = .ok new.toArray w)
 (hc:n+m<=c) (hstore:∀ a,base'=some a->(storeCells (a.add (n*j.size)) new).run P w = .ok () w') (hnone:base'=none->w'=w) :
 (Builtin.append_ ats ty args).run P w = .ok (.slice base' (n+m) c) w':=by
 rcases OE hux with hd|⟨e',hd⟩ <;> cases base'
 case inl.none|inr.none =>
  have:=hnone rfl;subst this
  simp[Builtin.append_,hst,hs,hx,hxt,Sem.run_bind,aT hu,aV hj,aT hd,hl,hc,hn]
 case inl.some a|inr.some a =>
  simp[Builtin.append_,hst,hs,hx,hxt,Sem.run_bind,aT hu,aV hj,aT hd,hl,hc,hn,hstore a rfl]
theorem LS {st xt ty e:TypeId}{j:TypeInfo}{z:Value}{ats:Array TypeId}{args:Array Value}{base':Option Addr}{n c m:Nat}{x:Value}{old new:List Value}{w:World}
 (hst:ats[0]? = some st) (hxt:ats[1]? = some xt) (hs:args[0]? = some (.slice base' n c)) (hx:args[1]? = some x) (hu:P.underlying st=some (.slice e)) (hj:P.info? e=some j) (hz:j.zero=some z)
 (hux:(aTy P xt = .str)\/(∃ e es eb,aTy P xt = .slice e es eb)) (hl:(Builtin.lenOf x).run P w = .ok m w) (hn:(Builtin.firstCells j.size m x).run P w.drew = .ok new.toArray w.drew)
 (ho:(Builtin.firstCells j.size n (.slice base' n c)).run P w.drew = .ok old.toArray w.drew)
 (hc:c<n+m) (h1:(n+m)*j.bytes<=2 ^ 47) (h2:n+m<=2 ^ 47) :
 (Builtin.append_ ats ty args).run P w = .ok (.slice (some ⟨w.heap.size,0,none⟩) (n+m) (grownCap w (n+m) c e))
  { w.drew with heap:=w.heap.push (.cells (old.toArray++new.toArray++Builtin.zeroCells z.cells (grownCap w (n+m) c e-(n+m))) e) }:=by
 have n1 : ¬ n+m<=c:=by omega
 have hmax:i64.max=9223372036854775807:=by decide
 have n2 : ¬ (((n+m:Nat):Int)>i64.max):=by rw[hmax];omega
 have n3 : ¬ (Builtin.nextslicecap (n+m) c*j.bytes>2 ^ 48):=by
  have:=growslice_fits (bytes:=j.bytes) hc (bY h1 (by decide))
  omega
 have hch:(choose (.appendCap (n+m) c e)).run P w = .ok (grownCap w (n+m) c e) w.drew:=by
  rw[run_choose];rfl
 rcases OE hux with hd|⟨e',hd⟩ <;>
  (simp only[Builtin.append_,hst,hs,hx,hxt,Sem.run_bind,aT hu,Result.andThen_ok,aV hj,aT hd,Sem.run_pure,eK,aS,hl,n1,Sem.run_ite,
   typeInfo,run_program,hj,n3]
   rw[aC (by intro h;exact n2 h.1)]
   simp only[Result.andThen_ok,hch,run_askRoom,ho,aO,Bool.not_false,hn,dY hj hz,newRow,run_newObj,Sem.run_bind,Sem.run_pure]
   rfl)
theorem iT {st xt ty e:TypeId}{j:TypeInfo}{k:IntKind}{z:Value}{ats:Array TypeId}{args:Array Value}{base':Option Addr}{n c m:Nat}{w w':World}
 (hst:ats[0]? = some st) (hxt:ats[1]? = some xt) (hs:args[0]? = some (.slice base' n c)) (hx:args[1]? = some (.int .i64 (.ofNat m))) (hu:P.underlying st=some (.slice e)) (hj:P.info? e=some j) (hzv:j.zero=some z)
 (hd:P.underlying xt=some (.int k)) (hzs:z.cells.size=j.size) (hm:m<=2 ^ 47) (hmb:m*j.bytes<=2 ^ 47)
 (hc:n+m<=c) (hstore:∀ a,base'=some a->(storeCells (a.add (n*j.size)) (dW z.cells.toList (m*j.size))).run P w = .ok () w') (hnone:base'=none->w'=w) :
 (Builtin.append_ ats ty args).run P w = .ok (.slice base' (n+m) c) w':=by
 have hwr:i64.wrap (Int.ofNat m)=(m:Int):=by
  have h64:i64.bits=64:=rfl
  have hsg:i64.signed=true:=rfl
  unfold IntKind.wrap
  rw[h64,hsg]
  have e1:Int.ofNat m%(2:Int) ^ 64=(m:Int):=Int.emod_eq_of_lt (by simp only[Int.ofNat_eq_natCast];omega) (by simp only[Int.ofNat_eq_natCast];omega)
  rw[e1]
  simp only[lP]
  rw[aC (by simp only[cK];omega)]
 have n1 : ¬ ((m:Int)<0):=by omega
 have n2 : ¬ ((m:Int)*(j.bytes:Int)>2 ^ 48):=by
  have:((m*j.bytes:Nat):Int)<=140737488355328:=by omega
  rw[Int.natCast_mul]at this
  omega
 have hrow:(Builtin.zeroCells z.cells m).toList=dW z.cells.toList (m*j.size):=by
  rw[<- hzs]
  exact lL z.cells (m*z.cells.size)
 have hnew:(if m*j.size=0 then(pure #[]:Sem (Array Value))else do pure (Builtin.zeroCells (<- zeroValue e).cells m)).run P w = .ok (dW z.cells.toList (m*j.size)).toArray w:=by
  by_cases h0:m*j.size=0
  ·rw[aA h0,h0];rfl
  ·rw[aC h0]
   simp only[Sem.run_bind,dY hj hzv,Result.andThen_ok,Sem.run_pure,<- hrow]
 have hwr2:i64.wrap (m:Int)=(m:Int):=hwr
 have n2' : ¬ (281474976710656<(m:Int)*(j.bytes:Int)):=by omega
 by_cases h0:m*j.size=0
 ·have hr0:dW z.cells.toList (m*j.size)=[]:=by rw[h0];rfl
  rw[hr0]at hstore
  cases base'
  case none =>
   have:=hnone rfl;subst this
   simp[Builtin.append_,hst,hs,hx,hxt,Sem.run_bind,aT hu,aV hj,aT hd,hc,asInt,asIntOf,hwr2,n1,n2',typeInfo,hj,h0]
  case some a =>
   simp[Builtin.append_,hst,hs,hx,hxt,Sem.run_bind,aT hu,aV hj,aT hd,hc,asInt,asIntOf,hwr2,n1,n2',typeInfo,hj,h0,hstore a rfl]
 ·cases base'
  case none =>
   have:=hnone rfl;subst this
   simp[Builtin.append_,hst,hs,hx,hxt,Sem.run_bind,aT hu,aV hj,aT hd,hc,asInt,asIntOf,hwr2,n1,n2',typeInfo,hj,dY hj hzv]
  case some a =>
   simp[Builtin.append_,hst,hs,hx,hxt,Sem.run_bind,aT hu,aV hj,aT hd,hc,asInt,asIntOf,hwr2,n1,n2',typeInfo,hj,dY hj hzv,hrow,hstore a rfl]
   intro h;exact absurd h h0
theorem GP {st xt ty e:TypeId}{j:TypeInfo}{k:IntKind}{z:Value}{ats:Array TypeId}{args:Array Value}{base':Option Addr}{n c m:Nat}{old:List Value}{w:World}
 (hst:ats[0]? = some st) (hxt:ats[1]? = some xt) (hs:args[0]? = some (.slice base' n c)) (hx:args[1]? = some (.int .i64 (.ofNat m))) (hu:P.underlying st=some (.slice e)) (hj:P.info? e=some j) (hz:j.zero=some z)
 (hd:P.underlying xt=some (.int k)) (hzs:z.cells.size=j.size) (hm:m<=2 ^ 47) (hmb:m*j.bytes<=2 ^ 47)
 (ho:(Builtin.firstCells j.size n (.slice base' n c)).run P w.drew = .ok old.toArray w.drew)
 (hc:c<n+m) (h1:(n+m)*j.bytes<=2 ^ 47) (h2:n+m<=2 ^ 47) :
 (Builtin.append_ ats ty args).run P w = .ok (.slice (some ⟨w.heap.size,0,none⟩) (n+m) (grownCap w (n+m) c e))
  { w.drew with heap:=w.heap.push (.cells (old.toArray++(dW z.cells.toList (m*j.size)).toArray++Builtin.zeroCells z.cells (grownCap w (n+m) c e-(n+m))) e) }:=by
 have hwr:i64.wrap (Int.ofNat m)=(m:Int):=by
  have h64:i64.bits=64:=rfl
  have hsg:i64.signed=true:=rfl
  unfold IntKind.wrap
  rw[h64,hsg]
  have e1:Int.ofNat m%(2:Int) ^ 64=(m:Int):=Int.emod_eq_of_lt (by simp only[Int.ofNat_eq_natCast];omega) (by simp only[Int.ofNat_eq_natCast];omega)
  rw[e1]
  simp only[lP]
  rw[aC (by simp only[cK];omega)]
 have m1 : ¬ ((m:Int)<0):=by omega
 have m2 : ¬ ((m:Int)*(j.bytes:Int)>2 ^ 48):=by
  have:((m*j.bytes:Nat):Int)<=140737488355328:=by omega
  rw[Int.natCast_mul]at this
  omega
 have hrow:(Builtin.zeroCells z.cells m).toList=dW z.cells.toList (m*j.size):=by
  rw[<- hzs]
  exact lL z.cells (m*z.cells.size)
 have hnew:(if m*j.size=0 then(pure #[]:Sem (Array Value))else do pure (Builtin.zeroCells (<- zeroValue e).cells m)).run P w.drew = .ok (dW z.cells.toList (m*j.size)).toArray w.drew:=by
  by_cases h0:m*j.size=0
  ·rw[aA h0,h0];rfl
  ·rw[aC h0]
   simp only[Sem.run_bind,dY hj hz,Result.andThen_ok,Sem.run_pure,<- hrow]
 have n1 : ¬ n+m<=c:=by omega
 have hmax:i64.max=9223372036854775807:=by decide
 have n2 : ¬ (((n+m:Nat):Int)>i64.max):=by rw[hmax];omega
 have n3 : ¬ (Builtin.nextslicecap (n+m) c*j.bytes>2 ^ 48):=by
  have:=growslice_fits (bytes:=j.bytes) hc (bY h1 (by decide))
  omega
 have hch:(choose (.appendCap (n+m) c e)).run P w = .ok (grownCap w (n+m) c e) w.drew:=by
  rw[run_choose];rfl
 have htn:((m:Int)).toNat=m:=gZ m
 simp only[Builtin.append_,hst,hs,hx,hxt,Sem.run_bind,aT hu,Result.andThen_ok,aV hj,aT hd,Sem.run_pure,aO,asInt,asIntOf,hwr,m1,aS,Sem.run_ite,typeInfo,run_program,hj,m2,htn,n1,n3]
 rw[aC (by intro h;exact n2 h.1)]
 simp only[Bool.not_true,eK,aS,Result.andThen_ok,hch,run_askRoom,ho,hnew,dY hj hz,newRow,run_newObj,Sem.run_bind,Sem.run_pure]
 have h3:(if m*j.size=0 then Result.ok (#[]:Array Value) w.drew else Result.ok (Builtin.zeroCells z.cells m) w.drew) = .ok (dW z.cells.toList (m*j.size)).toArray w.drew:=by
  by_cases h0:m*j.size=0
  ·rw[aA h0,h0];rfl
  ·rw[aC h0,<- hrow]
 rw[h3]
 rfl
theorem MN (S:Sim base w0 A ρ H w)(hbf:base<=fl)(hb:base<=H.length){ats:Array TypeId}{args args':Array Value}{ty:TypeId}{v:Value}{H':aD}
 (hfr:H.length<H'.length->ρ H.length=none)
 (hargs:LRel ρ args.toList args'.toList) (hA:∀ x∈args.toList,∀ b∈bK x,A b) (hW:∀ x,args[0]? = some x->∀ b∈bK x,W b)
 {st xt e es eb:Nat} {bs:Option Addr} {n c:Nat} {x:Value} (hst:ats[0]? = some st) (hxt:ats[1]? = some xt) (hs:args[0]? = some (.slice bs n c)) (hx:args[1]? = some x) (hsty:aTy P st = .slice e es eb)
 (h:rP P fl e es eb bs n c xt x H=some (v,H')):Done P base w0 A W fl ρ H w (do pure (.value (<- Builtin.append_ ats ty args'))) (.value v) H':=by
 unfold rP at h
 split at h
 case h_2=>cases h
 rename_i m k z hd hzz
 split at h
 case isFalse=>cases h
 rename_i hmm
 obtain⟨hzl0,hmb,hm⟩:=hmm
 obtain⟨_,j,_,hu,hj,rfl,rfl,hz0⟩:=fR hsty
 obtain⟨i2,zv,hi2,hzv,rfl,hpl⟩:=jQ hzz
 rw[hj]at hi2;cases hi2
 have hzs:zv.cells.size=j.size:=by simpa using hzl0
 obtain⟨sv,hs',hsr⟩:=hargs.get (i:=0) (v := .slice bs n c) (by simpa using hs)
 obtain⟨x',hx',hxr⟩:=hargs.get (i:=1) (v := .int .i64 (.ofNat m)) (by simpa using hx)
 cases hxr
 have hs':args'[0]? = some sv:=by simpa using hs'
 have hx':args'[1]? = some (.int .i64 (.ofNat m)):=by simpa using hx'
 have mems:Value.slice bs n c∈args.toList:=fW (i:=0) (by simpa using hs)
 obtain⟨new,hnew⟩:∃ new,dW zv.cells.toList (m*j.size)=new:=⟨_,rfl⟩
 have hnr:LRel ρ new new:=by rw[<- hnew];exact LRel.plain (xP hpl _)
 have hnl:new.length=m*j.size:=by rw[<- hnew,tZ]
 rw[hnew]at h
 unfold mD at h
 split at h
 ·rename_i hfit
  cases bs with
  | none =>
    cases h
    cases hsr
    have:=iT (ty:=ty) (w:=w) (w':=w) hst hxt hs' hx' hu hj hzv hd hzs hm hmb hfit (fun a ha=>by cases ha) (fun _=>rfl)
    exact Done.same S this (.nilslice _ _)
  | some a =>
    obtain⟨b,o,s⟩:=a
    rcases gY hsr with⟨rfl,L,o',c',hL,hf,rfl⟩|⟨rfl,rfl,rfl,L,a',hL,rfl⟩
    rotate_left
    ·have hm0:m=0:=by omega
     subst hm0
     have hn0:new=[]:=sY (by simpa using hnl)
     subst hn0
     skip
     simp[storeAt]at h
     obtain⟨rfl,rfl⟩:=h
     have:=iT (ty:=ty) (w:=w) (w':=w) hst hxt hs' hx' hu hj hzv hd hzs hm hmb (by omega) (fun a ha=>by rw[hnew];simp[storeCells]) (fun h=>by cases h)
     exact Done.same S this (.empty _ hL)
    have hcc:c<=c':=by
     rcases hf.2 with⟨_,h1⟩|⟨_,_,_,h1,_⟩|⟨_,_,h1,h2⟩ <;> omega
    simp only[dU]at h
    cases hst2:storeAt fl H ⟨b,o+n*j.size,none⟩ new with
    | none=>simp[hst2]at h
    | some H2 =>
      simp[hst2]at h
      obtain⟨rfl,rfl⟩:=h
      have hAb:A b:=hA _ mems b (by simp[bK])
      have hWb:W b:=hW _ hs b (by simp[bK])
      by_cases hne:new=[]
      ·subst hne
       skip
       simp only[storeAt,aX]at hst2
       subst hst2
       have hm0:m=0:=by
        have h0:m*j.size=0:=by simpa using hnl.symm
        exact(Nat.mul_eq_zero.1 h0).resolve_right hz0
       subst hm0
       have:=iT (ty:=ty) (w:=w) (w':=w) hst hxt hs' hx' hu hj hzv hd hzs hm hmb (by omega) (fun a ha=>by rw[hnew];simp[storeCells]) (fun h=>by cases h)
       refine Done.same S this (.slice hL ⟨hfit,?_⟩)
       rcases hf.2 with h1|h1|⟨h1,h2,h3,h4⟩
       ·exact .inl h1
       ·exact .inr (.inl h1)
       ·exact .inr (.inr ⟨h1,by omega,h3,h4⟩)
      ·have ho:o'=L.off+o:=by
        rcases hf.2 with⟨h1,_⟩|⟨_,h1,_⟩|⟨_,h1,h2,h3⟩
        ·exact h1
        ·exact h1
        ·exfalso
         have:m=0:=by omega
         subst this
         exact hne (sY (by simpa using hnl))
       subst ho
       obtain⟨w',hrun,hstep⟩:=oC (P:=P) S hbf (fun _=>⟨hAb,hWb⟩) hL hnr hst2
       have hrun':(storeCells (({ block:=L.blk,off:=L.off+o }:Addr).add (n*j.size)) new).run P w = .ok () w':=by
        rw[dU,rJ];exact hrun
       have:=iT (ty:=ty) (w:=w) (w':=w') hst hxt hs' hx' hu hj hzv hd hzs hm hmb (by omega) (fun a ha=>by cases ha;rw[hnew];exact hrun') (fun h=>by cases h)
       refine⟨ρ,.value (.slice (some ⟨L.blk,L.off+o,none⟩) (n+m) c'),w',by simp[this],.slice hL ⟨hfit,?_⟩,hstep⟩
       rcases hf.2 with h1|h1|⟨h1,h2,h3,h4⟩
       ·exact .inl h1
       ·exact .inr (.inl h1)
       ·exfalso
        have:m=0:=by omega
        subst this
        exact hne (sY (by simpa using hnl))
 ·rename_i hfit
  split at h
  ·rename_i hc
   obtain⟨hc1,hc2,hone,hzl⟩:=hc
   cases hold:cU H j.size n (.slice bs n c)with
   | none=>simp[hold]at h
   | some old =>
   cases hkill:nO fl H j.size bs with
   | none=>simp[hold,hkill]at h
   | some H2 =>
   simp[hold,hkill]at h
   obtain⟨rfl,rfl⟩:=h
   obtain⟨old',hro,hor,hol⟩:=p8 (P:=P) S hsr (fun l hl=>by cases hl;exact aF _) (hA _ mems) hold
   have hol':old'.length=n*j.size:=by rw[<- hor.1];exact hol
   obtain⟨hks,hkl⟩:=JA S (H':=H2) (A:=A) (W:=W) (fun a ha=>hW _ hs a.block (by rw[ha];simp[bK])) hkill
   have hfr1:=hfr (by simp[hkl])
   have hone':new.all Value.oneCell'=true:=by
    rw[bW]
    intro y hy
    obtain⟨i,hi⟩:=List.getElem?_of_mem hy
    have hi':i<new.length:=by
     have:=(List.getElem?_eq_some_iff.1 hi).1
     have:=hnr.1
     omega
    rw[(hnr.2 i _ y (aM hi') hi).oneCell]
    exact List.all_eq_true.1 hone _ (lO hi')
   have hon:=hor.append hnr
   have grow:∀ base' c',args'[0]? = some (.slice base' n c')->sv = .slice base' n c'->c'<n+m ->
    Done P base w0 A W fl ρ H w (do pure (.value (<- Builtin.append_ ats ty args'))) (.value (.slice (some ⟨H2.length,0,none⟩) (n+m) (n+m))) (H2++[⟨old++new,j.size,false,true⟩]):=by
    intro base' c' hs2 hsv hlt
    subst hsv
    have hr:=hnew▸GP (ty:=ty) hst hxt hs2 hx' hu hj hzv hd hzs hm hmb (hro w.drew rfl) hlt hc1 hc2
    have hge:=grownCap_ge w (n+m) c' e
    have hnb:=Step.new_block (A:=fun id=>A id\/H.length<=id) (W:=W) (fl:=fl) hks.sim (by rw[hkl];exact hfr1) (by omega) (old++new)
     (old'.toArray++new.toArray++Builtin.zeroCells zv.cells (grownCap w (n+m) c' e-(n+m))) e (0,0) j.size false
     (w':={ w.drew with heap:=w.heap.push (.cells (old'.toArray++new.toArray++Builtin.zeroCells zv.cells (grownCap w (n+m) c' e-(n+m))) e) }) ⟨rfl,rfl,rfl,rfl⟩
     (by have:=hon.1;simp at this⊢;omega) (fun h=>by cases h) (.inl rfl) (fun i u hu2=>by
      obtain⟨u',p,q⟩:=hon.get hu2
      refine⟨u',?_,q⟩
      rw[<- nF]
      simp only[tT]
      rw[dL (by
       have:=(List.getElem?_eq_some_iff.1 p).1
       simpa using this)]
      exact p)
    refine⟨_,.value (.slice (some ⟨w.heap.size,0,none⟩) (n+m) (grownCap w (n+m) c' e)),_,by simp[hr],?_,hks.trans hnb (fun id hi => .inl hi) (fun id h1 h2 => ?_)⟩
    ·refine .slice (o:=0) (bC ρ H2.length _) ⟨aF _,.inr (.inl ⟨rfl,rfl,?_,hge,?_⟩)⟩
     ·simp[hol,hnl,fA]
     ·simp[hol,hnl,hol',hnl,size_zeroCells,hzs]
    ·simp[hkl]at h2
     have:id=H.length:=by omega
     subst this;exact hfr1
   cases bs with
   | none =>
     cases hsr
     exact grow none c hs' rfl (by omega)
   | some a =>
     obtain⟨b,o,s⟩:=a
     rcases gY hsr with⟨rfl,L,o',c',hL,hf,rfl⟩|⟨rfl,rfl,rfl,L,a',hL,rfl⟩
     rotate_left
     ·exact grow (some a') 0 hs' rfl (by omega)
     by_cases hroom:n+m<=c'
     ·
       rcases hf.2 with⟨_,h1⟩|⟨hex,ho,hn,hc,hr⟩|⟨_,_,h1,h2⟩
       ·omega
       ·subst ho
        have hAb:A b:=hA _ mems b (by simp[bK])
        have hWb:W b:=hW _ hs b (by simp[bK])
        unfold nO at hkill
        simp only at hkill
        cases hB:H[b]? with
        | none=>simp[hB]at hkill
        | some B =>
        have hst2:=S.stat b L B hL hB
        simp only[hB]at hkill
        rw[aC (by rw[hst2.2.1,hex];simp)]at hkill
        split at hkill
        ·rename_i hk
         cases hkill
         have hB':blk? H b=some B:=by simp[blk?,hB,hk.2.1]
         have hes:L.es=j.size:=by rw[<- hst2.2.2.1];exact hk.1
         rw[hes]at hn hr
         obtain⟨cc,e2,fz,g1,g2,g3,g4⟩:=S.cont b L B hAb hL hB'
         have hmul:(n+m)*j.size<=c'*j.size:=uO _ hroom
         have hcm:c*j.size<=c'*j.size:=uO _ hc
         rw[Nat.sub_mul]at hr
         rw[fA]at hmul
         obtain⟨w',p,q⟩:=iO P L.blk (L.off+o+n*j.size) e2 fz new 0 cc w g1 (by omega) (LD (g3 (by omega))) hone'
         have hrun':(storeCells (({ block:=L.blk,off:=L.off+o }:Addr).add (n*j.size)) new).run P w = .ok () w':=by
          rw[dU];exact p
         have hap:=iT (ty:=ty) (w:=w) (w':=w') hst hxt hs' hx' hu hj hzv hd hzs hm hmb hroom (fun a ha=>by cases ha;rw[hnew];exact hrun') (fun h=>by cases h)
         have hlenb:(H.set b { B with alive:=false }).length=H.length:=by simp
         have hip:=Step.inplace (W:=W) S hbf hfr1 (cs:=old++new) (es:=j.size) (o:=L.off+o) (r:=L.room-o) (cc':=(setCells cc.toList (L.off+o+n*j.size+0) new).toArray) hAb hWb hk.2.2 hL hB' g1
          (by simp[eF]) (by omega) (by simp[hol,hnl];omega) ⟨by simp[eF,hol,hnl];omega,(fun i u hi hh=>by
           simp only[Nat.add_zero]
           by_cases hlt:i<n*j.size
           ·rw[jY _ _ _ _ (.inl (by omega))]
            rw[dL (by omega)]at hi
            obtain⟨u2,k1,k2⟩:=g4 (o+i) u (by
             unfold cU at hold
             simp only at hold
             split at hold
             ·omega
             ·unfold fC at hold
              simp only[hB']at hold
              split at hold
              ·cases hold
               rw[List.getElem?_take,aA hlt,q8]at hi
               exact hi
              ·cases hold) hh
            exact⟨u2,by rw[rJ];simpa using k1,k2⟩
           ·rw[o5 (by omega),hol]at hi
            obtain⟨u2,k1,k2⟩:=hnr.get hi
            have hlt2:=(List.getElem?_eq_some_iff.1 k1).1
            have:=oL new cc.toList (L.off+o+n*j.size) (i-n*j.size) (by simp;omega) hlt2
            rw[show L.off+o+n*j.size+(i-n*j.size)=L.off+o+i by omega]at this
            exact⟨u2,by rw[this];exact k1,k2⟩)⟩
          (by simpa using q)
         rw[hlenb]
         refine⟨_,.value (.slice (some ⟨L.blk,L.off+o,none⟩) (n+m) c'),w',by simp[hap],?_,hip⟩
         refine .slice (L:=⟨L.blk,L.off+o,L.room-o,(old++new).length,j.size,false⟩) (o:=0) (bC ρ H.length _) ⟨aF _,.inr (.inl ⟨rfl,rfl,?_,hroom,?_⟩)⟩
         ·simp[hol,hnl,fA]
         ·simp only[aR,hol,hnl,Nat.sub_mul,fA]
          omega
        ·cases hkill
       ·omega
     ·exact grow (some ⟨L.blk,o',none⟩) c' hs' rfl (by omega)
  ·cases h
theorem PG (S:Sim base w0 A ρ H w)(hbf:base<=fl)(hb:base<=H.length){ats:Array TypeId}{args args':Array Value}{ty:TypeId}{v:Value}{H':aD}
 (hfr:H.length<H'.length->ρ H.length=none)
 (hargs:LRel ρ args.toList args'.toList) (hA:∀ x∈args.toList,∀ b∈bK x,A b) (hW:∀ x,args[0]? = some x->∀ b∈bK x,W b)
 (h:mN P fl ats args H=some (v,H')):Done P base w0 A W fl ρ H w (do pure (.value (<- Builtin.append_ ats ty args'))) (.value v) H':=by
 unfold mN at h
 split at h
 case h_2=>cases h
 rename_i st xt bs n c x hst hxt hs hx
 have hcase:(∃ e es eb m,aTy P st = .slice e es eb/\EF x=some m/\((aTy P xt = .str)\/(∃ e es eb,aTy P xt = .slice e es eb))/\gF P fl e es eb bs n c m x H=some (v,H')) \/
  (∃ e es eb,aTy P st = .slice e es eb/\rP P fl e es eb bs n c xt x H=some (v,H')):=by
  split at h
  ·exact .inl ⟨_,_,_,_,‹_›,‹_›,.inr ⟨_,_,_,‹_›⟩,h⟩
  ·exact .inl ⟨_,_,_,_,‹_›,‹_›,.inl ‹_›,h⟩
  ·exact .inr ⟨_,_,_,‹_›,h⟩
  ·cases h
 rcases hcase with⟨e,es,eb,m,hsty,hlen,hux,h⟩|⟨e,es,eb,hsty,h⟩
 rotate_left
 ·exact MN S hbf hb hfr hargs hA hW hst hxt hs hx hsty h
 obtain⟨_,j,_,hu,hj,rfl,rfl,hz0⟩:=fR hsty
 obtain⟨sv,hs',hsr⟩:=hargs.get (i:=0) (v := .slice bs n c) (by simpa using hs)
 obtain⟨x',hx',hxr⟩:=hargs.get (i:=1) (v:=x) (by simpa using hx)
 have hs':args'[0]? = some sv:=by simpa using hs'
 have hx':args'[1]? = some x':=by simpa using hx'
 have mems:Value.slice bs n c∈args.toList:=fW (i:=0) (by simpa using hs)
 have memx:x∈args.toList:=fW (i:=1) (by simpa using hx)
 have hlen':=NN (P:=P) hxr hlen w
 unfold gF at h
 cases hnew:cU H j.size m x with
 | none=>simp[hnew]at h
 | some new =>
 simp only[hnew]at h
 obtain⟨new',hrn,hnr,hnl⟩:=p8 (P:=P) S hxr (fun l hl=>by rw[hlen]at hl;cases hl;exact aF _) (hA x memx) hnew
 have hnl':new'.length=m*j.size:=by rw[<- hnr.1];exact hnl
 split at h
 ·rename_i hfit
  cases bs with
  | none =>
    cases h
    cases hsr
    have:=jN (ty:=ty) hst hxt hs' hx' hu hj hux hlen' (hrn w rfl) hfit (fun a ha=>by cases ha) (fun _=>rfl)
    exact Done.same S this (.nilslice _ _)
  | some a =>
    obtain⟨b,o,s⟩:=a
    rcases gY hsr with⟨rfl,L,o',c',hL,hf,rfl⟩|⟨rfl,rfl,rfl,L,a',hL,rfl⟩
    rotate_left
    ·have hm0:m=0:=by omega
     subst hm0
     have hn0:new=[]:=sY (by simpa using hnl)
     subst hn0
     have:=hnr.inv_nil;subst this
     simp[storeAt]at h
     obtain⟨rfl,rfl⟩:=h
     have:=jN (ty:=ty) (w':=w) hst hxt hs' hx' hu hj hux hlen' (hrn w rfl) (by omega) (fun a ha=>by simp[storeCells]) (fun h=>by cases h)
     exact Done.same S this (.empty _ hL)
    have hcc:c<=c':=by
     rcases hf.2 with⟨_,h1⟩|⟨_,_,_,h1,_⟩|⟨_,_,h1,h2⟩ <;> omega
    simp only[dU]at h
    cases hst2:storeAt fl H ⟨b,o+n*j.size,none⟩ new with
    | none=>simp[hst2]at h
    | some H2 =>
      simp[hst2]at h
      obtain⟨rfl,rfl⟩:=h
      have hAb:A b:=hA _ mems b (by simp[bK])
      have hWb:W b:=hW _ hs b (by simp[bK])
      by_cases hne:new=[]
      ·subst hne
       have:=hnr.inv_nil;subst this
       simp only[storeAt,aX]at hst2
       subst hst2
       have hm0:m=0:=by
        have h0:m*j.size=0:=by simpa using hnl.symm
        exact(Nat.mul_eq_zero.1 h0).resolve_right hz0
       subst hm0
       have:=jN (ty:=ty) (w':=w) hst hxt hs' hx' hu hj hux hlen' (hrn w rfl) (by omega) (fun a ha=>by simp[storeCells]) (fun h=>by cases h)
       refine Done.same S this (.slice hL ⟨hfit,?_⟩)
       rcases hf.2 with h1|h1|⟨h1,h2,h3,h4⟩
       ·exact .inl h1
       ·exact .inr (.inl h1)
       ·exact .inr (.inr ⟨h1,by omega,h3,h4⟩)
      ·have ho:o'=L.off+o:=by
        rcases hf.2 with⟨h1,_⟩|⟨_,h1,_⟩|⟨_,h1,h2,h3⟩
        ·exact h1
        ·exact h1
        ·exfalso
         have:m=0:=by omega
         subst this
         exact hne (sY (by simpa using hnl))
       subst ho
       obtain⟨w',hrun,hstep⟩:=oC (P:=P) S hbf (fun _=>⟨hAb,hWb⟩) hL hnr hst2
       have hrun':(storeCells (({ block:=L.blk,off:=L.off+o }:Addr).add (n*j.size)) new').run P w = .ok () w':=by
        rw[dU,rJ];exact hrun
       have:=jN (ty:=ty) (w':=w') hst hxt hs' hx' hu hj hux hlen' (hrn w rfl) (by omega) (fun a ha=>by cases ha;exact hrun') (fun h=>by cases h)
       refine⟨ρ,.value (.slice (some ⟨L.blk,L.off+o,none⟩) (n+m) c'),w',by simp[this],.slice hL ⟨hfit,?_⟩,hstep⟩
       rcases hf.2 with h1|h1|⟨h1,h2,h3,h4⟩
       ·exact .inl h1
       ·exact .inr (.inl h1)
       ·exfalso
        have:m=0:=by omega
        subst this
        exact hne (sY (by simpa using hnl))
 ·rename_i hfit
  split at h
  ·rename_i hc
   obtain⟨hc1,hc2,hone,hzl⟩:=hc
   cases hold:cU H j.size n (.slice bs n c)with
   | none=>simp[hold]at h
   | some old =>
   cases hkill:nO fl H j.size bs with
   | none=>simp[hold,hkill]at h
   | some H2 =>
   simp[hold,hkill]at h
   obtain⟨rfl,rfl⟩:=h
   obtain⟨old',hro,hor,hol⟩:=p8 (P:=P) S hsr (fun l hl=>by cases hl;exact aF _) (hA _ mems) hold
   have hol':old'.length=n*j.size:=by rw[<- hor.1];exact hol
   obtain⟨hks,hkl⟩:=JA S (H':=H2) (A:=A) (W:=W) (fun a ha=>hW _ hs a.block (by rw[ha];simp[bK])) hkill
   have hfr1:=hfr (by simp[hkl])
   cases hz:cS P e with
   | none=>simp[hz]at hzl
   | some z =>
   obtain⟨i2,zv,hi2,hzv,rfl,_⟩:=jQ hz
   rw[hj]at hi2;cases hi2
   have hzs:zv.cells.size=j.size:=by simpa [hz] using hzl
   have hone':new'.all Value.oneCell'=true:=by
    rw[bW]
    intro y hy
    obtain⟨i,hi⟩:=List.getElem?_of_mem hy
    have hi':i<new.length:=by
     have:=(List.getElem?_eq_some_iff.1 hi).1
     have:=hnr.1
     omega
    rw[(hnr.2 i _ y (aM hi') hi).oneCell]
    exact List.all_eq_true.1 hone _ (lO hi')
   have hon:=hor.append hnr
   have grow:∀ base' c',args'[0]? = some (.slice base' n c')->sv = .slice base' n c'->c'<n+m ->
    Done P base w0 A W fl ρ H w (do pure (.value (<- Builtin.append_ ats ty args'))) (.value (.slice (some ⟨H2.length,0,none⟩) (n+m) (n+m))) (H2++[⟨old++new,j.size,false,true⟩]):=by
    intro base' c' hs2 hsv hlt
    subst hsv
    have hr:=LS (ty:=ty) hst hxt hs2 hx' hu hj hzv hux hlen' (hrn w.drew rfl) (hro w.drew rfl) hlt hc1 hc2
    have hge:=grownCap_ge w (n+m) c' e
    have hnb:=Step.new_block (A:=fun id=>A id\/H.length<=id) (W:=W) (fl:=fl) hks.sim (by rw[hkl];exact hfr1) (by omega) (old++new)
     (old'.toArray++new'.toArray++Builtin.zeroCells zv.cells (grownCap w (n+m) c' e-(n+m))) e (0,0) j.size false
     (w':={ w.drew with heap:=w.heap.push (.cells (old'.toArray++new'.toArray++Builtin.zeroCells zv.cells (grownCap w (n+m) c' e-(n+m))) e) }) ⟨rfl,rfl,rfl,rfl⟩
     (by have:=hon.1;simp at this⊢;omega) (fun h=>by cases h) (.inl rfl) (fun i u hu2=>by
      obtain⟨u',p,q⟩:=hon.get hu2
      refine⟨u',?_,q⟩
      rw[<- nF]
      simp only[tT]
      rw[dL (by
       have:=(List.getElem?_eq_some_iff.1 p).1
       simpa using this)]
      exact p)
    refine⟨_,.value (.slice (some ⟨w.heap.size,0,none⟩) (n+m) (grownCap w (n+m) c' e)),_,by simp[hr],?_,hks.trans hnb (fun id hi => .inl hi) (fun id h1 h2 => ?_)⟩
    ·refine .slice (o:=0) (bC ρ H2.length _) ⟨aF _,.inr (.inl ⟨rfl,rfl,?_,hge,?_⟩)⟩
     ·simp[hol,hnl,fA]
     ·simp[hol,hnl,hol',hnl',size_zeroCells,hzs]
    ·simp[hkl]at h2
     have:id=H.length:=by omega
     subst this;exact hfr1
   cases bs with
   | none =>
     cases hsr
     exact grow none c hs' rfl (by omega)
   | some a =>
     obtain⟨b,o,s⟩:=a
     rcases gY hsr with⟨rfl,L,o',c',hL,hf,rfl⟩|⟨rfl,rfl,rfl,L,a',hL,rfl⟩
     rotate_left
     ·exact grow (some a') 0 hs' rfl (by omega)
     by_cases hroom:n+m<=c'
     ·
       rcases hf.2 with⟨_,h1⟩|⟨hex,ho,hn,hc,hr⟩|⟨_,_,h1,h2⟩
       ·omega
       ·subst ho
        have hAb:A b:=hA _ mems b (by simp[bK])
        have hWb:W b:=hW _ hs b (by simp[bK])
        unfold nO at hkill
        simp only at hkill
        cases hB:H[b]? with
        | none=>simp[hB]at hkill
        | some B =>
        have hst2:=S.stat b L B hL hB
        simp only[hB]at hkill
        rw[aC (by rw[hst2.2.1,hex];simp)]at hkill
        split at hkill
        ·rename_i hk
         cases hkill
         have hB':blk? H b=some B:=by simp[blk?,hB,hk.2.1]
         have hes:L.es=j.size:=by rw[<- hst2.2.2.1];exact hk.1
         rw[hes]at hn hr
         obtain⟨cc,e2,fz,g1,g2,g3,g4⟩:=S.cont b L B hAb hL hB'
         have hmul:(n+m)*j.size<=c'*j.size:=uO _ hroom
         have hcm:c*j.size<=c'*j.size:=uO _ hc
         rw[Nat.sub_mul]at hr
         rw[fA]at hmul
         obtain⟨w',p,q⟩:=iO P L.blk (L.off+o+n*j.size) e2 fz new' 0 cc w g1 (by omega) (LD (g3 (by omega))) hone'
         have hrun':(storeCells (({ block:=L.blk,off:=L.off+o }:Addr).add (n*j.size)) new').run P w = .ok () w':=by
          rw[dU];exact p
         have hap:=jN (ty:=ty) (w':=w') hst hxt hs' hx' hu hj hux hlen' (hrn w rfl) hroom (fun a ha=>by cases ha;exact hrun') (fun h=>by cases h)
         have hlenb:(H.set b { B with alive:=false }).length=H.length:=by simp
         have hip:=Step.inplace (W:=W) S hbf hfr1 (cs:=old++new) (es:=j.size) (o:=L.off+o) (r:=L.room-o) (cc':=(setCells cc.toList (L.off+o+n*j.size+0) new').toArray) hAb hWb hk.2.2 hL hB' g1
          (by simp[eF]) (by omega) (by simp[hol,hnl];omega) ⟨by simp[eF,hol,hnl];omega,(fun i u hi hh=>by
           simp only[Nat.add_zero]
           by_cases hlt:i<n*j.size
           ·rw[jY _ _ _ _ (.inl (by omega))]
            rw[dL (by omega)]at hi
            obtain⟨u2,k1,k2⟩:=g4 (o+i) u (by
             unfold cU at hold
             simp only at hold
             split at hold
             ·omega
             ·unfold fC at hold
              simp only[hB']at hold
              split at hold
              ·cases hold
               rw[List.getElem?_take,aA hlt,q8]at hi
               exact hi
              ·cases hold) hh
            exact⟨u2,by rw[rJ];simpa using k1,k2⟩
           ·rw[o5 (by omega),hol]at hi
            obtain⟨u2,k1,k2⟩:=hnr.get hi
            have hlt2:=(List.getElem?_eq_some_iff.1 k1).1
            have:=oL new' cc.toList (L.off+o+n*j.size) (i-n*j.size) (by simp;omega) hlt2
            rw[show L.off+o+n*j.size+(i-n*j.size)=L.off+o+i by omega]at this
            exact⟨u2,by rw[this];exact k1,k2⟩)⟩
          (by simpa using q)
         rw[hlenb]
         refine⟨_,.value (.slice (some ⟨L.blk,L.off+o,none⟩) (n+m) c'),w',by simp[hap],?_,hip⟩
         refine .slice (L:=⟨L.blk,L.off+o,L.room-o,(old++new).length,j.size,false⟩) (o:=0) (bC ρ H.length _) ⟨aF _,.inr (.inl ⟨rfl,rfl,?_,hroom,?_⟩)⟩
         ·simp[hol,hnl,fA]
         ·simp only[aR,hol,hnl,Nat.sub_mul,fA]
          omega
        ·cases hkill
       ·omega
     ·exact grow (some ⟨L.blk,o',none⟩) c' hs' rfl (by omega)
  ·cases h
end
end Go.Mach
namespace Go.Mach
open IntKind (i8 i16 i32 i64 u8 u16 u32 u64)
section
variable {P:Program} {base:Nat} {w0:World} {A W:Nat->Prop} {fl:Nat} {ρ:Ren} {H:aD} {w:World}
theorem VE (S:Sim base w0 A ρ H w)(hbf:base<=fl){ats:Array TypeId}{args args':Array Value}{ty:TypeId}{v:Value}{H':aD}
 (hargs:LRel ρ args.toList args'.toList) (hA:∀ x∈args.toList,∀ b∈bK x,A b) (hW:∀ x,args[0]? = some x->∀ b∈bK x,W b)
 (h:DG P fl ats args H=some (v,H')):Done P base w0 A W fl ρ H w (do pure (.value (<- Builtin.copy_ ats ty args'))) (.value v) H':=by
 unfold DG at h
 split at h
 case h_2=>cases h
 rename_i dt ba n c x hdt hs hx
 split at h
 case h_2=>cases h
 rename_i e es eb m hsty hlen
 obtain⟨_,j,_,hu,hj,rfl,rfl,hz0⟩:=fR hsty
 obtain⟨sv,hs',hsr⟩:=hargs.get (i:=0) (v := .slice ba n c) (by simpa using hs)
 obtain⟨x',hx',hxr⟩:=hargs.get (i:=1) (v:=x) (by simpa using hx)
 have hs':args'[0]? = some sv:=by simpa using hs'
 have hx':args'[1]? = some x':=by simpa using hx'
 have mems:Value.slice ba n c∈args.toList:=fW (i:=0) (by simpa using hs)
 have memx:x∈args.toList:=fW (i:=1) (by simpa using hx)
 have hlen':=NN (P:=P) hxr hlen w
 cases hnew:cU H j.size (Nat.min m n) x with
 | none=>simp[hnew]at h
 | some new =>
 simp only[hnew]at h
 obtain⟨new',hrn,hnr,hnl⟩:=p8 (P:=P) S hxr (fun l hl=>by rw[hlen]at hl;cases hl;exact Nat.min_le_left _ _) (hA x memx) hnew
 cases ba with
 | none =>
   cases h
   cases hsr
   refine Done.same S ?_ (.int _ _)
   simp[Builtin.copy_,hdt,hs',hx',Sem.run_bind,aT hu,hlen',aV hj,hrn w rfl,goInt]
 | some a =>
   obtain⟨b,o,s⟩:=a
   rcases gY hsr with⟨rfl,L,o',c',hL,hf,rfl⟩|⟨rfl,rfl,rfl,L,a',hL,rfl⟩
   rotate_left
   ·have hn0:new=[]:=sY (by rw[hnl];simp)
    subst hn0
    have:=hnr.inv_nil;subst this
    simp[storeAt]at h
    obtain⟨rfl,rfl⟩:=h
    refine Done.same S ?_ (.int _ _)
    have e0:Nat.min m 0=0:=Nat.min_zero m
    have hrn0:=hrn w rfl
    rw[e0]at hrn0
    simp[Builtin.copy_,hdt,hs',hx',Sem.run_bind,aT hu,hlen',aV hj,hrn0,goInt,storeCells]
   cases hst2:storeAt fl H ⟨b,o,none⟩ new with
   | none=>simp[hst2]at h
   | some H2 =>
     simp[hst2]at h
     obtain⟨rfl,rfl⟩:=h
     by_cases hne:new=[]
     ·subst hne
      have:=hnr.inv_nil;subst this
      simp only[storeAt,aX]at hst2
      subst hst2
      refine Done.same S ?_ (.int _ _)
      simp[Builtin.copy_,hdt,hs',hx',Sem.run_bind,aT hu,hlen',aV hj,hrn w rfl,goInt,storeCells]
     ·have ho:o'=L.off+o:=by
       rcases hf.2 with⟨h1,_⟩|⟨_,h1,_⟩|⟨_,h1,h2,h3⟩
       ·exact h1
       ·exact h1
       ·exfalso
        subst h1
        exact hne (sY (by simpa using hnl))
      subst ho
      obtain⟨w',hrun,hstep⟩:=oC (P:=P) S hbf (fun _=>⟨hA _ mems b (by simp[bK]),hW _ hs b (by simp[bK])⟩) hL hnr hst2
      refine⟨ρ,.value (.int .i64 (Nat.min m n)),w',?_,.int _ _,hstep⟩
      simp[Builtin.copy_,hdt,hs',hx',Sem.run_bind,aT hu,hlen',aV hj,hrn w rfl,goInt,hrun]
theorem Y7 (S:Sim base w0 A ρ H w){ats:Array TypeId}{args args':Array Value}{ty:TypeId}{v:Value}
 (hargs:LRel ρ args.toList args'.toList) (h:s9 P ats args=some v):Done P base w0 A W fl ρ H w (do pure (.value (<- Builtin.len_ ats ty args'))) (.value v) H:=by
 unfold s9 at h
 split at h
 case h_2=>cases h
 rename_i t x ht hx
 obtain⟨x',hx',hxr⟩:=hargs.get (i:=0) (v:=x) (by simpa using hx)
 have hx':args'[0]? = some x':=by simpa using hx'
 split at h
 ·rename_i s hty
  cases h;cases hxr
  exact Done.same S (by simp[Builtin.len_,ht,hx',Sem.run_bind,aT (G4 hty),goInt]) (.int _ _)
 ·rename_i n e es sz hty
  cases h
  obtain⟨i,j,_,hu,_⟩:=n9 hty
  exact Done.same S (by simp[Builtin.len_,ht,hx',Sem.run_bind,aT hu,goInt]) (.int _ _)
 ·rename_i e es eb a n c hty
  cases h
  obtain⟨i,j,_,hu,_⟩:=fR hty
  have:∃ a' c',x' = .slice a' n c':=by cases hxr <;> exact⟨_,_,rfl⟩
  obtain⟨a',c',rfl⟩:=this
  exact Done.same S (by simp[Builtin.len_,ht,hx',Sem.run_bind,aT hu,goInt]) (.int _ _)
 ·cases h
theorem WE {x y z x' y':Value}(hx:VRel ρ x x')(hy:VRel ρ y y')(h:C4 x y=some z):(Builtin.max2 x' y').run P w = .ok z w/\VRel ρ z z:=by
 unfold C4 at h
 split at h
 ·cases h;cases hx;cases hy;exact⟨by simp[Builtin.max2],.int _ _⟩
 ·cases h
theorem WG {x y z x' y':Value}(hx:VRel ρ x x')(hy:VRel ρ y y')(h:B9 x y=some z):(Builtin.min2 x' y').run P w = .ok z w/\VRel ρ z z:=by
 unfold B9 at h
 split at h
 ·cases h;cases hx;cases hy;exact⟨by simp[Builtin.min2],.int _ _⟩
 ·cases h
theorem AF {f:Value->Value->Option Value}{g:Value->Value->Sem Value}
 (hf:∀ {x y z x' y':Value},VRel ρ x x'->VRel ρ y y'->f x y=some z->(g x' y').run P w = .ok z w/\VRel ρ z z) :
 ∀ (l l':List Value) (x x' v:Value),VRel ρ x x'->LRel ρ l l'->wE f x l=some v->∃ v',(l'.foldlM g x').run P w = .ok v' w/\VRel ρ v v'
 | [],l',x,x',v,hx,hl,h=>by
   rw[hl.inv_nil];cases h;exact⟨x',by simp,hx⟩
 | y::l,l',x,x',v,hx,hl,h=>by
   obtain⟨y',ys,rfl,hy,ht⟩:=hl.inv
   simp only[wE]at h
   cases hz:f x y with
   | none=>simp[hz]at h
   | some z =>
     simp only[hz]at h
     obtain⟨h1,h2⟩:=hf hx hy hz
     obtain⟨v',p,q⟩:=AF hf l ys z z v h2 ht h
     exact⟨v',by simp[List.foldlM_cons,Sem.run_bind,h1,p],q⟩
theorem sL:∀ {cs:List Value} {l:List UInt8},eZ cs=some l->∃ ns:List Int,cs=ns.map (Value.int .u8)/\l=ns.map fun z=>UInt8.ofNat z.toNat
 | [],l,h=>by cases h;exact⟨[],rfl,rfl⟩
 | v::cs,l,h=>by
   unfold eZ at h
   split at h
   ·rename_i he;cases he
   ·rename_i z l' he
    cases he
    cases hb:eZ cs with
    | none=>simp[hb]at h
    | some r =>
      simp[hb]at h
      obtain⟨ns,h1,h2⟩:=sL hb
      exact⟨z::ns,by simp[h1],by simp[<- h,h2]⟩
   ·cases h
theorem LP:∀ (ns:List Int) (r:ByteArray),ns.foldl (fun r n=>r.push (UInt8.ofNat n.toNat)) r=⟨r.data++(ns.map fun z=>UInt8.ofNat z.toNat).toArray⟩
 | [],r=>by simp
 | n::ns,r=>by
   rw[List.foldl_cons,LP ns]
   simp[ByteArray.push]
theorem aAI {α:Type}{a:Array α}{i:Nat}{x:α}(f:α->α)(h:a[i]? = some x):a.modify i f=a.setIfInBounds i (f x):=by
 have hi:=(Array.getElem?_eq_some_iff.1 h).1
 apply Array.ext_getElem?
 intro k
 rw[Array.getElem?_modify,Array.getElem?_setIfInBounds]
 by_cases hk:i=k
 ·subst hk
  rw[aA rfl,aA rfl,aA hi,h]
  rfl
 ·rw[aC hk,aC hk]
theorem VZ (S:Sim base w0 A ρ H w)(hbf:base<=fl){s d:TypeId}{x x' v:Value}(hx:VRel ρ x x')(hA:∀ b∈bK x,A b)(hW:s=d->∀ b∈bK x,W b)
 (h:kY P fl s d x H=some v):Done P base w0 A W fl ρ H w (do pure (.value (<- convert s d x'))) (.value v) H:=by
 unfold kY at h
 split at h
 case h_2=>cases h
 rename_i a n c
 split at h
 case isFalse=>cases h
 rename_i hc
 obtain⟨rfl,hfl,hb⟩:=hc
 split at h
 case h_2=>cases h
 rename_i e hs
 split at h
 case h_2=>cases h
 rename_i he
 cases h
 obtain⟨b,o,st⟩:=a
 have hAb:A b:=hA b (by simp[bK])
 have hWb:W b:=hW rfl b (by simp[bK])
 rcases gY hx with⟨rfl,L,o',c',hL,hf,rfl⟩|⟨_,h0,_⟩
 rotate_left
 ·cases h0
 cases hB:blk? H b with
 | none=>rw[hB]at hb;cases hb
 | some B =>
 obtain⟨cc,e1,⟨lo,hi⟩,g1,g2,g3,g4⟩:=S.cont b L B hAb hL hB
 have hsh:w.shape? L.blk=some (e1,cc.size):=by
  unfold World.shape?
  rw[g1]
 have hr:(convert s s (.slice (some ⟨L.blk,o',none⟩) (n+1) c')).run P w = .ok (.slice (some ⟨L.blk,o',none⟩) (n+1) c') (w.freeze ⟨L.blk,cc.size,none⟩ 1):=by
  simp[convert,aT hs,aT he,markStringish,hsh]
 have hheap:(w.freeze ⟨L.blk,cc.size,none⟩ 1).heap=w.heap.setIfInBounds L.blk (.cells cc e1 (if lo==hi then(cc.size,cc.size+1)else(min lo cc.size,max hi (cc.size+1)))):=by
  unfold World.freeze
  rw[aC (by decide)]
  exact(aAI (fun | .cells c elem (lo,hi) => .cells c elem (if lo==hi then(cc.size,cc.size+1)else(min lo cc.size,max hi (cc.size+1)))|o=>o) g1)
 refine⟨ρ,.value (.slice (some ⟨L.blk,o',none⟩) (n+1) c'),w.freeze ⟨L.blk,cc.size,none⟩ 1,by simp[hr],hx,Step.mark S hbf hAb hWb hfl hL hB g1 ?_ ⟨hheap,?_,?_,?_⟩⟩
 ·have g5:=g3 (bY hbf hfl)
  split
  ·exact .inr (aF _)
  ·rename_i hne
   have hne:lo≠hi:=by simpa using hne
   refine .inr ?_
   show cc.size<=min lo cc.size
   simp only at g5
   omega
 ·unfold World.freeze;rw[aC (by decide)]
 ·unfold World.freeze;rw[aC (by decide)]
 ·unfold World.freeze;rw[aC (by decide)]
theorem VX (S:Sim base w0 A ρ H w)(hb:base<=H.length){s d:TypeId}{x x' v:Value}{H':aD}(hfr:H.length<H'.length->ρ H.length=none)(hx:VRel ρ x x')(hA:∀ b∈bK x,A b)
 (h:kF P s d x H=some (v,H')):Done P base w0 A W fl ρ H w (do pure (.value (<- convert s d x'))) (.value v) H':=by
 unfold kF at h
 split at h
 ·rename_i u k k0 n hs hd
  cases h;cases hx
  exact Done.same S (by simp[convert,Sem.run_bind,aT hs,aT hd,Conv.intToInt]) (.int _ _)
 ·rename_i u b hs hd
  cases h;cases hx
  exact Done.same S (by simp[convert,Sem.run_bind,aT hs,aT hd]) (.string _)
 ·rename_i u k k0 n hs hd
  cases h;cases hx
  exact Done.same S (run_convert_int_float w s d k0 k n (by rw[hs];rfl) hd) (.float _ _)
 ·rename_i u k sk b hs hd
  cases hx
  split at h
  ·rename_i n hn
   cases h
   exact Done.same S (run_convert_float_int w s d sk k b n (by rw[hs];rfl) hd hn) (.int _ _)
  ·cases h
 ·rename_i e b hs hd
  cases hx
  split at h
  ·rename_i he
   split at h
   ·cases h
    have hfr:=hfr (by simp)
    have hr:(convert s d (.string b)).run P w = .ok (.slice (some ⟨w.heap.size,0,none⟩) b.size (grownCap w b.size 0 e))
     (w.drew.alloc (.cells (bytesRow b (grownCap w b.size 0 e)) e ((bytesRow b (grownCap w b.size 0 e)).size,(bytesRow b (grownCap w b.size 0 e)).size+1))):=by
     exact run_bytes_of_string (P:=P) w s d e b hs hd he
    have hge:=grownCap_ge w b.size 0 e
    have hbs:(bytesRow b (grownCap w b.size 0 e)).size=grownCap w b.size 0 e:=by
     have:b.data.size=b.size:=rfl
     simp only[bytesRow,Array.size_append,Array.size_map,Array.size_replicate,this];omega
    have hbl:(b.data.toList.map fun c=>Value.int .u8 c.toNat).length=b.size:=by rw[e8,xE];rfl
    refine⟨_,.value (.slice (some ⟨w.heap.size,0,none⟩) b.size (grownCap w b.size 0 e)),w.drew.alloc (.cells (bytesRow b (grownCap w b.size 0 e)) e ((bytesRow b (grownCap w b.size 0 e)).size,(bytesRow b (grownCap w b.size 0 e)).size+1)),by simp[hr],?_,
     Step.new_block S hfr hb _ (bytesRow b (grownCap w b.size 0 e)) e
     ((bytesRow b (grownCap w b.size 0 e)).size,(bytesRow b (grownCap w b.size 0 e)).size+1) 1 false ⟨rfl,rfl,rfl,rfl⟩ (by rw[hbl,hbs];exact hge) (fun h=>by cases h) (.inr (aF _)) fun i u hu => ?_⟩
    ·refine .slice (o:=0) (bC ρ H.length _) ⟨aF _,.inr (.inl ⟨rfl,rfl,?_,hge,?_⟩)⟩
     ·rw[hbl];simp
     ·show(b.data.toList.map fun c=>Value.int .u8 c.toNat).length+_<=(bytesRow b (grownCap w b.size 0 e)).size
      rw[hbl,hbs,mV];omega
    ·have hi:=(List.getElem?_eq_some_iff.1 hu).1
     obtain⟨x,hx,rfl⟩:=p9 hu
     refine⟨_,?_,.int _ _⟩
     unfold bytesRow
     rw[Array.getElem?_append_left (by simpa using hi)]
     simp at hx
     simp[hx]
   ·cases h
  ·cases h
 ·rename_i e a n c hs hd
  split at h
  ·rename_i he
   cases h;cases hx
   exact Done.same S (by simp[convert,Sem.run_bind,aT hs,aT hd,aT he,Conv.bytesToString]) (.string _)
  ·rename_i a he
   split at h
   ·rename_i h0
    cases h
    subst h0
    have:∃ a' c',x' = .slice a' 0 c':=by cases hx <;> exact⟨_,_,rfl⟩
    obtain⟨a',c',rfl⟩:=this
    refine Done.same S ?_ (.string _)
    rw[run_convert_bytes_string w s d e a' 0 c' hs he hd]
    cases a' with
    | none=>simp[Conv.bytesToString]
    | some a' =>
      rw[run_bytesToString w a' 0 c' [] (by simp[loadCells,loadCellsFrom])]
      rfl
   ·rename_i h0
    obtain⟨b,o,st⟩:=a
    rcases gY hx with⟨rfl,L,o',c',hL,hf,rfl⟩|⟨rfl,rfl,rfl,L,a',hL,rfl⟩
    rotate_left
    ·exact absurd rfl h0
    have ho:o'=L.off+o:=by
     rcases hf.2 with⟨h1,_⟩|⟨_,h1,_⟩|⟨_,h1,_⟩
     ·exact h1
     ·exact h1
     ·omega
    subst ho
    cases hc:fC H ⟨b,o,none⟩ n with
    | none=>simp[hc]at h
    | some cs =>
      simp only[hc]at h
      cases hbc:eZ cs with
      | none=>simp[hbc]at h
      | some l =>
        simp[hbc]at h
        obtain⟨rfl,rfl⟩:=h
        obtain⟨ns,rfl,rfl⟩:=sL hbc
        obtain⟨cs',hr,hl,hw⟩:=DR S (hA b (by simp[bK])) hL hc
        have hcs:cs'=ns.map (Value.int .u8):=by
         apply wQ
         intro i
         cases hi:(ns.map (Value.int .u8))[i]? with
         | none=>rw[O2]at hi⊢;have:=hr.1;omega
         | some u =>
           obtain⟨z,_,rfl⟩:=p9 hi
           obtain⟨u',p,q⟩:=hr.get hi
           rw[p];cases q;rfl
        subst hcs
        have hld:=run_loadCells_list (P:=P) w ⟨L.blk,L.off+o,none⟩ (ns.map (Value.int .u8)) hw
        rw[hl]at hld
        refine Done.same S ?_ (.string _)
        rw[run_convert_bytes_string w s d e _ n c' hs he hd,run_bytesToString w _ n c' ns hld,LP]
        simp
  ·cases h
 ·cases h
theorem PV {ev cev:Operand->Value}(xs:Array Operand)(h:∀ x∈xs,VRel ρ (ev x) (cev x)):LRel ρ (xs.map ev).toList (xs.map cev).toList:=by
 refine⟨by simp,fun i v v' a b => ?_⟩
 simp only[Array.toList_map,b8,nF]at a b
 cases hx:xs[i]? with
 | none=>simp[hx]at a
 | some x=>grind
theorem LH {ev cev:Operand->Value}(o:Option Operand)(h:∀ x∈o.toArray,VRel ρ (ev x) (cev x)):HM ρ (o.map ev) (o.map cev):=by
 cases o with
 | none=>trivial
 | some x=>exact h x (by simp)
theorem VT (S:Sim base w0 A ρ H w)(hbf:base<=fl)(hb:base<=H.length){o:Oper}{c:Call}(ho:o.op = .call c){ev cev:Operand->Value}{r:tG}{H':aD}
 (hfr:∀ id,H.length<=id->id<H'.length->ρ id=none)
 (hv:∀ x∈c.operands,VRel ρ (ev x) (cev x)) (hA:∀ b∈cI o.op ev,A b) (hW:∀ b∈j0 o.op ev,W b) (h:fP P fl c ev H=some (r,H')) :
 Done P base w0 A W fl ρ H w (execOp cev o) r H':=by
 have hargs:LRel ρ (c.args.map ev).toList (c.args.map cev).toList:=PV c.args fun x hx=>hv x (by simp[Call.operands,hx])
 obtain⟨cal,args,ats⟩:=c
 simp only[execOp,ho]
 rw[ho]at hA hW
 unfold fP at h
 cases cal with
 | invoke rv m=>simp at h
 | value f =>
   have hf:=hv f (by simp[Call.operands])
   simp only at h
   split at h
   ·rename_i g first captured hef
    split at h
    ·rename_i hg
     cases h
     rw[hef]at hf
     obtain⟨first',captured',hcf,h1,h2⟩:=hf.func_inv
     refine⟨ρ,.enter g (first'++args.map cev++captured'),w,?_,⟨rfl,?_⟩,Step.same S ⟨rfl,rfl,rfl,rfl⟩⟩
     ·simp only[resolve,hcf,Deferred.ofValue,Sem.run_bind,Sem.run_pure,Result.andThen_ok,invoke,callFunc,run_program]
      unfold tC at hg
      cases hfn:P.funcs[g]? with
      | none=>simp[hfn]at hg
      | some fn =>
        simp only[hfn,aH,bne_iff_ne,ne_eq]at hg
        have hbn:fn.body.isNone=false:=by cases hb:fn.body <;> simp_all
        have hne:(fn.name == "runtime.NumGoroutine")=false:=by simpa using hg.1
        simp[hne,hbn]
     ·simpa using(h1.append hargs).append h2
    ·cases h
   ·cases h
 | builtin b =>
   cases b <;> simp only at h <;> try (cases h;done)
   case len =>
    cases hl:s9 P ats (args.map ev)with
    | none=>simp[hl]at h
    | some v =>
      simp[hl]at h
      obtain⟨rfl,rfl⟩:=h
      have:=Y7 (P:=P) (W:=W) (fl:=fl) (ty:=o.type) S hargs hl
      simpa [resolve,invoke,builtin] using this
   case append =>
    cases hl:mN P fl ats (args.map ev) H with
    | none=>simp[hl]at h
    | some v =>
      simp[hl]at h
      obtain⟨rfl,rfl⟩:=h
      have hA':∀ x∈(args.map ev).toList,∀ b∈bK x,A b:=fun x hx b hb=>hA b (List.mem_flatMap.2 ⟨x,hx,hb⟩)
      have hW':∀ x,(args.map ev)[0]? = some x->∀ b∈bK x,W b:=fun x hx b hb=>hW b (by simp only[j0,hx];exact hb)
      have:=PG (P:=P) (ty:=o.type) (v:=v.1) (H':=v.2) S hbf hb (fun hlt=>hfr _ (aF _) hlt) hargs hA' hW' hl
      simpa [resolve,invoke,builtin] using this
   case copy =>
    cases hl:DG P fl ats (args.map ev) H with
    | none=>simp[hl]at h
    | some v =>
      simp[hl]at h
      obtain⟨rfl,rfl⟩:=h
      have hA':∀ x∈(args.map ev).toList,∀ b∈bK x,A b:=fun x hx b hb=>hA b (List.mem_flatMap.2 ⟨x,hx,hb⟩)
      have hW':∀ x,(args.map ev)[0]? = some x->∀ b∈bK x,W b:=fun x hx b hb=>hW b (by simp only[j0,hx];exact hb)
      have:=VE (P:=P) (ty:=o.type) (v:=v.1) (H':=v.2) S hbf hargs hA' hW' hl
      simpa [resolve,invoke,builtin] using this
   case complex =>
    split at h
    ·rename_i k a k' b hl
     split at h
     ·rename_i e;subst e;cases h
      rw[hl]at hargs
      obtain⟨x',l',hl',hx,ht⟩:=hargs.inv
      obtain⟨y',l2,rfl,hy,ht2⟩:=ht.inv
      have:=ht2.inv_nil;subst this
      cases hx;cases hy
      have ha:args.map cev = #[.float k a,.float k b]:=zE hl'
      have:=Done.same (P:=P) (W:=W) (fl:=fl) S (s:=Builtin.complex_ ats o.type (args.map cev)) (v' := .complex k a b) (by rw[ha];exact run_complex w ats o.type k a b) (.complex k a b)
      simpa [resolve,invoke,builtin] using this
     ·cases h
    ·cases h
   case real =>
    split at h
    ·rename_i k a b hl
     cases h
     rw[hl]at hargs
     obtain⟨x',l',hl',hx,ht⟩:=hargs.inv
     have:=ht.inv_nil;subst this
     cases hx
     have ha:args.map cev = #[.complex k a b]:=zE hl'
     have:=Done.same (P:=P) (W:=W) (fl:=fl) S (s:=Builtin.real_ ats o.type (args.map cev)) (v' := .float k a) (by rw[ha];exact run_real w ats o.type k a b) (.float k a)
     simpa [resolve,invoke,builtin] using this
    ·cases h
   case imag =>
    split at h
    ·rename_i k a b hl
     cases h
     rw[hl]at hargs
     obtain⟨x',l',hl',hx,ht⟩:=hargs.inv
     have:=ht.inv_nil;subst this
     cases hx
     have ha:args.map cev = #[.complex k a b]:=zE hl'
     have:=Done.same (P:=P) (W:=W) (fl:=fl) S (s:=Builtin.imag_ ats o.type (args.map cev)) (v' := .float k b) (by rw[ha];exact run_imag w ats o.type k a b) (.float k b)
     simpa [resolve,invoke,builtin] using this
    ·cases h
   case max =>
    cases hl:(args.map ev).toList with
    | nil=>simp only[hl]at h;cases h
    | cons x l =>
      simp only[hl]at h hargs
      cases hz:wE C4 x l with
      | none=>simp[hz]at h
      | some v =>
        simp[hz]at h
        obtain⟨rfl,rfl⟩:=h
        obtain⟨x',l',hl',hx,ht⟩:=hargs.inv
        obtain⟨v',p,q⟩:=AF (P:=P) (w:=w) WE l l' x x' v hx ht hz
        have:=Done.same (P:=P) (W:=W) (fl:=fl) S (s:=Builtin.max_ ats o.type (args.map cev)) (v':=v') (by simp only[Builtin.max_,hl',p]) q
        simpa [resolve,invoke,builtin] using this
   case min =>
    cases hl:(args.map ev).toList with
    | nil=>simp only[hl]at h;cases h
    | cons x l =>
      simp only[hl]at h hargs
      cases hz:wE B9 x l with
      | none=>simp[hz]at h
      | some v =>
        simp[hz]at h
        obtain⟨rfl,rfl⟩:=h
        obtain⟨x',l',hl',hx,ht⟩:=hargs.inv
        obtain⟨v',p,q⟩:=AF (P:=P) (w:=w) WG l l' x x' v hx ht hz
        have:=Done.same (P:=P) (W:=W) (fl:=fl) S (s:=Builtin.min_ ats o.type (args.map cev)) (v':=v') (by simp only[Builtin.min_,hl',p]) q
        simpa [resolve,invoke,builtin] using this
theorem IP (S:Sim base w0 A ρ H w)(hbf:base<=fl)(hb:base<=H.length){o:Oper}{ev cev:Operand->Value}{r:tG}{H':aD}
 (hfr:∀ id,H.length<=id->id<H'.length->ρ id=none)
 (hv:∀ x∈o.op.operands,VRel ρ (ev x) (cev x)) (hA:∀ b∈cI o.op ev,A b) (hW:∀ b∈j0 o.op ev,W b) (h:aJ P fl o.op ev H=some (r,H')) :
 Done P base w0 A W fl ρ H w (execOp cev o) r H':=by
 obtain⟨dst,op,type,pos,after,guard⟩:=o
 simp only at h hv hA hW
 cases op <;> simp only[aJ]at h <;> try (cases h;done)
 case move x =>
  cases h
  exact⟨ρ,.value (cev x),w,by simp[execOp],hv x (by simp[Op.operands]),Step.same S ⟨rfl,rfl,rfl,rfl⟩⟩
 case assign x =>
  cases h
  exact⟨ρ,.value (cev x),w,by simp[execOp],hv x (by simp[Op.operands]),Step.same S ⟨rfl,rfl,rfl,rfl⟩⟩
 case pick c a b =>
  have h1:=hv c (by simp[Op.operands])
  have h2:=hv a (by simp[Op.operands])
  have h3:=hv b (by simp[Op.operands])
  split at h
  ·rename_i d hd
   cases h
   rw[hd]at h1
   have h1':cev c = .bool d:=by
    generalize cev c=u at h1
    cases h1;rfl
   cases d
   ·exact⟨ρ,.value (cev b),w,by simp[execOp,h1',asBool],h3,Step.same S ⟨rfl,rfl,rfl,rfl⟩⟩
   ·exact⟨ρ,.value (cev a),w,by simp[execOp,h1',asBool],h2,Step.same S ⟨rfl,rfl,rfl,rfl⟩⟩
  ·cases h
 case alloc t =>
  split at h
  ·cases h
   exact Q2 S hb (hfr _ (aF _) (by simp)) ‹_›
  ·cases h
 case box t x =>
  cases h
  exact ZV S hb (hfr _ (aF _) (by simp)) (hv x (by simp[Op.operands]))
 case build t parts =>
  have hp:∀ p∈parts.toList,VRel ρ (ev p.2) (cev p.2):=fun p hp=>hv p.2 (by simp[Op.operands];exact⟨_,by simpa using hp⟩)
  have harr:(parts.map fun(p:Nat×Operand)=>(p.1,cev p.2))=(parts.toList.map fun p=>(p.1,cev p.2)).toArray:=by
   apply zE;simp
  split at h
  ·split at h
   ·cases h
    have:=AJ (P:=P) (W:=W) (fl:=fl) S ‹_› ‹_› hp ‹_›
    simp only[execOp]
    rw[show(parts.map fun(x:Nat×Operand)=>match x with|(i,x)=>(i,cev x))=(parts.toList.map fun p=>(p.1,cev p.2)).toArray from harr]
    exact this
   ·cases h
  ·split at h
   ·cases h
    have:=CU (P:=P) (W:=W) (fl:=fl) S ‹_› ‹_› hp ‹_›
    simp only[execOp]
    rw[show(parts.map fun(x:Nat×Operand)=>match x with|(i,x)=>(i,cev x))=(parts.toList.map fun p=>(p.1,cev p.2)).toArray from harr]
    exact this
   ·cases h
  ·cases h
 case buildSlice t len parts =>
  have hp:∀ p∈parts.toList,VRel ρ (ev p.2) (cev p.2):=fun p hp=>hv p.2 (by simp[Op.operands];exact⟨_,by simpa using hp⟩)
  have harr:(parts.map fun(p:Nat×Operand)=>(p.1,cev p.2))=(parts.toList.map fun p=>(p.1,cev p.2)).toArray:=by
   apply zE;simp
  split at h
  ·split at h
   ·split at h
    ·split at h
     ·cases h
      have:=E0 (P:=P) (W:=W) (fl:=fl) S hb (hfr _ (aF _) (by simp)) ‹_› ‹_› ‹_› hp ‹_›
      simp only[execOp]
      rw[show(parts.map fun(x:Nat×Operand)=>match x with|(i,x)=>(i,cev x))=(parts.toList.map fun p=>(p.1,cev p.2)).toArray from harr]
      exact this
     ·cases h
    ·cases h
   ·cases h
  ·cases h
 case load t a =>
  have ha:=hv a (by simp[Op.operands])
  split at h
  ·rename_i p hp
   obtain⟨b,o,s⟩:=p
   rw[hp]at ha
   have hAb:A b:=hA b (by simp[cI,hp,bK])
   generalize hc:cev a=u at ha
   obtain⟨rfl,L,hL,rfl⟩:=uG ha
   cases hl:lD P t H ⟨b,o,none⟩with
   | none=>simp[hl]at h
   | some v =>
     simp[hl]at h
     obtain⟨rfl,rfl⟩:=h
     obtain⟨v',hr,hvr⟩:=FB S hAb hL hl
     exact⟨ρ,.value v',w,by simp[execOp,hc,Instr.loadAt,Instr.sureAddr,hr],hvr,Step.same S ⟨rfl,rfl,rfl,rfl⟩⟩
  ·cases h
 case store t a x =>
  have ha:=hv a (by simp[Op.operands])
  have hx:=hv x (by simp[Op.operands])
  split at h
  ·rename_i p hp
   obtain⟨b,o,s⟩:=p
   rw[hp]at ha
   have hAb:A b:=hA b (by simp[cI,hp,bK])
   have hWb:W b:=hW b (by simp[j0,hp,bK])
   generalize hc:cev a=u at ha
   obtain⟨rfl,L,hL,rfl⟩:=uG ha
   cases hl:uY P fl t H ⟨b,o,none⟩ (ev x)with
   | none=>simp[hl]at h
   | some H2 =>
     simp[hl]at h
     obtain⟨rfl,rfl⟩:=h
     unfold uY at hl
     split at hl
     ·rename_i hsz
      obtain⟨w',hr,hst⟩:=oC (P:=P) S hbf (fun _=>⟨hAb,hWb⟩) hL hx.cells hl
      refine⟨ρ,.skip,w',?_,trivial,hst⟩
      have hs2:(cev x).cells.size=(ev x).cells.size:=by have:=hx.cells.1;simpa using this.symm
      have hne:aTy P t ≠ .other:=by intro he;simp[zN,he]at hsz
      obtain⟨i,d,hi,hd⟩:=OK hne
      have his:i.size=(ev x).cells.size:=by
       have hcs:P.cellsOf t=i.size:=by simp[Program.cellsOf,hi]
       unfold zN at hsz
       rw[hcs]at hsz
       split at hsz
       ·cases hsz
       ·simpa using hsz
      simp[execOp,hc,Instr.storeAt,Instr.sureAddr,storeVar,aV hi,hs2,his,hr]
     ·cases hl
  ·cases h
 case nilCheck x =>
  have hx:=hv x (by simp[Op.operands])
  split at h
  ·rename_i a ha
   cases h
   rw[ha]at hx
   generalize hc:cev x=u at hx
   obtain⟨b,o,s⟩:=a
   have hx':=hx
   obtain⟨rfl,L,hL,rfl⟩:=uG hx
   exact⟨ρ,.value (.pointer (some ⟨L.blk,L.off+o,none⟩)),w,by simp[execOp,hc],hx',Step.same S ⟨rfl,rfl,rfl,rfl⟩⟩
  ·rename_i f a b ha
   cases h
   rw[ha]at hx
   generalize hc:cev x=u at hx
   obtain⟨xs,ys,rfl,h1,h2⟩:=hx.func_inv
   exact⟨ρ,.value (.func (.func f) xs ys),w,by simp[execOp,hc],hx,Step.same S ⟨rfl,rfl,rfl,rfl⟩⟩
  ·cases h
 case binOp op t x y yt =>
  have hx:=hv x (by simp[Op.operands])
  have hy:=hv y (by simp[Op.operands])
  cases hb2:nM P op t (bR x||bR y) (ev x) (ev y)with
  | none=>simp[hb2]at h
  | some v =>
    simp[hb2]at h
    obtain⟨rfl,rfl⟩:=h
    obtain⟨p,q⟩:=UO (P:=P) (ox:=x) (oy:=y) hx hy hb2 (by simp) w
    exact Done.same S p q
 case unOp op t x =>
  have hx:=hv x (by simp[Op.operands])
  cases hu:aUn op (ev x)with
  | none=>simp[hu]at h
  | some v =>
    simp[hu]at h
    obtain⟨rfl,rfl⟩:=h
    obtain⟨p,q⟩:=aAC (P:=P) hx hu w
    exact Done.same S p q
 case convert s d x =>
  have hx:=hv x (by simp[Op.operands])
  cases hm:kY P fl s d (ev x) H with
  | some v =>
    simp[hm]at h
    obtain⟨rfl,rfl⟩:=h
    exact VZ S hbf hx (fun b hb=>hA b (by simpa [cI] using hb)) (fun e b hb=>hW b (by rw[NF,aA e];exact hb)) hm
  | none =>
  rw[hm]at h
  cases hc:kF P s d (ev x) H with
  | none=>simp[hc]at h
  | some v =>
    simp[hc]at h
    obtain⟨rfl,rfl⟩:=h
    exact VX S hb (v:=v.1) (H':=v.2) (fun hlt=>hfr _ (aF _) hlt) hx (fun b hb=>hA b (by simpa [cI] using hb)) hc
 case makeFunc fn first captured =>
  cases h
  refine Done.same S (v' := .func fn (first.map cev) (captured.map cev)) (by simp[Instr.makeFunc]) (VRel.func_of fn ?_ ?_)
  ·exact PV first fun x hx=>hv x (by simp[Op.operands,hx])
  ·exact PV captured fun x hx=>hv x (by simp[Op.operands,hx])
 case makeSlice t l c =>
  have hl:=hv l (by simp[Op.operands])
  have hc:=hv c (by simp[Op.operands])
  split at h
  ·rename_i e es eb kl l' kc c' ht h1 h2
   rw[h1]at hl;rw[h2]at hc
   split at h
   ·split at h
    ·cases h
     have:=GJ (P:=P) (W:=W) (fl:=fl) (kl:=kl) (kc:=kc) S hb (hfr _ (aF _) (by simp)) ht ‹_› ‹_›
     have e1:cev l = .int kl l':=by generalize cev l=u at hl;cases hl;rfl
     have e2:cev c = .int kc c':=by generalize cev c=u at hc;cases hc;rfl
     simp only[execOp,e1,e2]
     exact this
    ·cases h
   ·cases h
  ·cases h
 case slice t x lo hi mx =>
  have hx:=hv x (by simp[Op.operands])
  cases hs:sX P t (ev x) (lo.map ev) (hi.map ev) (mx.map ev) H with
  | none=>simp[hs]at h
  | some v =>
    simp[hs]at h
    obtain⟨rfl,rfl⟩:=h
    obtain⟨v',p,q⟩:=SU (P:=P) S hx (LH lo fun y hy=>hv y (by simp[Op.operands]at hy⊢;simp[hy])) (LH hi fun y hy=>hv y (by simp[Op.operands]at hy⊢;simp[hy]))
     (LH mx fun y hy=>hv y (by simp[Op.operands]at hy⊢;simp[hy])) hs
    exact Done.same S p q
 case fieldAddr s x f =>
  have hx:=hv x (by simp[Op.operands])
  cases hs:n6 P s (ev x) f with
  | none=>simp[hs]at h
  | some v =>
    simp[hs]at h
    obtain⟨rfl,rfl⟩:=h
    obtain⟨v',p,q⟩:=GL (P:=P) hx hs w
    exact Done.same S p q
 case field t x f =>
  have hx:=hv x (by simp[Op.operands])
  cases hs:AV P t (ev x) f with
  | none=>simp[hs]at h
  | some v =>
    simp[hs]at h
    obtain⟨rfl,rfl⟩:=h
    obtain⟨v',p,q⟩:=TI (P:=P) hx hs w
    exact Done.same S p q
 case indexAddr t x ix =>
  have hx:=hv x (by simp[Op.operands])
  have hy:=hv ix (by simp[Op.operands])
  cases hs:iL P t (ev x) (ev ix)with
  | none=>simp[hs]at h
  | some v =>
    simp[hs]at h
    obtain⟨rfl,rfl⟩:=h
    obtain⟨v',p,q⟩:=GX (P:=P) hx hy hs w
    exact Done.same S p q
 case index t x ix =>
  have hx:=hv x (by simp[Op.operands])
  have hy:=hv ix (by simp[Op.operands])
  cases hs:uB P t (ev x) (ev ix)with
  | none=>simp[hs]at h
  | some v =>
    simp[hs]at h
    obtain⟨rfl,rfl⟩:=h
    obtain⟨v',p,q⟩:=Q0 (P:=P) hx hy hs w
    exact Done.same S p q
 case extract x i =>
  have hx:=hv x (by simp[Op.operands])
  split at h
  ·rename_i vs hvs
   rw[hvs]at hx
   generalize hc:cev x=u at hx
   obtain⟨ys,rfl,hr⟩:=hx.tuple_inv
   cases hg:vs[i]? with
   | none=>simp[hg]at h
   | some v =>
     simp[hg]at h
     obtain⟨rfl,rfl⟩:=h
     obtain⟨v',p,q⟩:=hr.get (i:=i) (v:=v) (by simpa using hg)
     have p':ys[i]? = some v':=by simpa using p
     exact Done.same S (v':=v') (by simp[Instr.extract,hc,p']) q
  ·cases h
 case sliceToArrayPointer t x =>
  have hx:=hv x (by simp[Op.operands])
  cases hs:EW P t (ev x)with
  | none=>simp[hs]at h
  | some v =>
    simp[hs]at h
    obtain⟨rfl,rfl⟩:=h
    obtain⟨v',p,q⟩:=RX (P:=P) hx hs w
    exact Done.same S p q
 case makeInterface t x =>
  have hx:=hv x (by simp[Op.operands])
  split at h
  ·cases h
  ·rename_i d hnd hu
   cases h
   refine Done.same S (v' := .iface t (cev x)) ?_ (.iface t hx)
   simp only[Instr.makeInterface,Sem.run_bind,aT hu,Result.andThen_ok]
   cases d <;> first|rfl|exact absurd rfl (hnd _)
  ·cases h
 case call c =>
  exact VT S hbf hb rfl hfr (fun x hx=>hv x (by simpa [Op.operands] using hx)) hA hW h
end
end Go.Mach
