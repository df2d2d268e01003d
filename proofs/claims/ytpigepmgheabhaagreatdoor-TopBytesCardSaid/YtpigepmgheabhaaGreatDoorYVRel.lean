/- Part of the proof. No condition. -/
import Derived.Test.YtpigepmgheabhaaGreatDoorYVRun
namespace Go.Mach
set_option linter.unusedVariables false
inductive All2 {α β:Type}(R:α->β->Prop):List α->List β->Prop
 | nil:All2 R [] []
 | cons {a:α} {b:β} {l:List α} {m:List β} (h:R a b) (t:All2 R l m):All2 R (a::l) (b::m)
section
variable {α β γ:Type} {R S:α->β->Prop}
theorem All2.mono (hrs:∀ a b,R a b->S a b):∀ {l:List α} {m:List β},All2 R l m->All2 S l m
 | _,_,.nil => .nil
 | _,_,.cons h t => .cons (hrs _ _ h) (t.mono hrs)
theorem All2.len:∀ {l:List α} {m:List β},All2 R l m->l.length=m.length
 | _,_,.nil=>rfl
 | _,_,.cons _ t=>by simp[t.len]
theorem All2.get:∀ {l:List α} {m:List β},All2 R l m->∀ {i:Nat} {a:α},l[i]? = some a->∃ b,m[i]? = some b/\R a b
 | _,_,.nil,i,a,h=>by simp at h
 | _,_,.cons (b:=b) h t,0,a,e=>⟨b,by simp,by simp at e;subst e;exact h⟩
 | _,_,.cons h t,i+1,a,e=>by
   simp only[List.getElem?_cons_succ]at e⊢
   exact t.get e
theorem All2.app:∀ {l:List α} {m:List β} {l':List α} {m':List β},All2 R l m->All2 R l' m'->All2 R (l++l') (m++m')
 | _,_,_,_,.nil,k=>k
 | _,_,_,_,.cons h t,k => .cons h (t.app k)
theorem All2.drop:∀ {l:List α} {m:List β} (n:Nat),All2 R l m->All2 R (l.drop n) (m.drop n)
 | _,_,0,h=>h
 | _,_,_+1,.nil => .nil
 | _,_,n+1,.cons _ t=>t.drop n
theorem All2.take:∀ {l:List α} {m:List β} (n:Nat),All2 R l m->All2 R (l.take n) (m.take n)
 | _,_,0,_ => .nil
 | _,_,_+1,.nil => .nil
 | _,_,n+1,.cons h t => .cons h (t.take n)
theorem All2.set:∀ {l:List α} {m:List β} (n:Nat) {a:α} {b:β},All2 R l m->R a b->All2 R (l.set n a) (m.set n b)
 | _,_,_,_,_,.nil,_ => .nil
 | _,_,0,_,_,.cons _ t,h => .cons h t
 | _,_,n+1,_,_,.cons h' t,h => .cons h' (t.set n h)
theorem All2.mapL {T:γ->β->Prop}{f:α->γ}(hf:∀ a b,R a b->T (f a) b):∀ {l:List α} {m:List β},All2 R l m->All2 T (l.map f) m
 | _,_,.nil => .nil
 | _,_,.cons h t => .cons (hf _ _ h) (t.mapL hf)
end
abbrev Fz:=Nat->Option Blk
def cA (o:Bool)(n0:Nat->Bool)(F:Fz):Fz:=fun b=>if o=true/\n0 b=true then none else F b
def Fz.ext (F F':Fz):Prop:=∀ b B,F b=some B->F' b=some B
theorem Fz.ext_refl (F:Fz):F.ext F:=fun _ _ h=>h
theorem Fz.ext_trans {A B C:Fz}(h:A.ext B)(k:B.ext C):A.ext C:=fun b X e=>k b X (h b X e)
theorem oQ {o:Bool}{n0:Nat->Bool}{F F':Fz}(h:F.ext F'):(cA o n0 F).ext (cA o n0 F'):=by
 intro b B hb
 unfold cA at hb⊢
 split at hb
 ·cases hb
 ·rename_i hn;rw[aC hn];exact h b B hb
theorem pV {o:Bool}{n0:Nat->Bool}{F:Fz}:(cA o n0 F).ext F:=by
 intro b B hb
 unfold cA at hb
 split at hb
 ·cases hb
 ·exact hb
def InB (cells:List Value)(q w:Nat)(cs:List Value):Prop:=q+w<=cells.length/\(cells.drop q).take w=cs
structure RSl {α:Type}(F:Fz)(r:α->List Value->Prop)(w:Nat)(a:Option Addr)(c:Nat)(l:List α):Prop where
 cap:l.length<=c
 at_:l=[]\/∃ b o B,a=some ⟨b,o,none⟩/\F b=some B/\(B.exact=true\/B.es=w)/\∀ i x,l[i]? = some x->∃ cs,InB B.cells (o+i*w) w cs/\r x cs
def RP {α:Type}(F:Fz)(r:α->List Value->Prop)(w:Nat)(p:Option Addr):List α->Prop
 | []=>p=none
 | [x]=>∃ b B cs,p=some ⟨b,0,none⟩/\F b=some B/\InB B.cells 0 w cs/\r x cs
 | _=>False
theorem RP.mono {α:Type}{F F':Fz}{r r':α->List Value->Prop}{w:Nat}{p:Option Addr}(he:F.ext F')(hr:∀ x cs,r x cs->r' x cs):∀ {l:List α},RP F r w p l->RP F' r' w p l
 | [],h=>h
 | [_],⟨b,B,cs,h1,h2,h3,h4⟩=>⟨b,B,cs,h1,he _ _ h2,h3,hr _ _ h4⟩
 | _::_::_,h=>h.elim
def RT (F:Fz):(t:Ty)->t.den->List Value->Prop
 | .int k,n,cs=>cs=[.int k n]
 | .bool,b,cs=>cs=[.bool b]
 | .str,s,cs=>cs=[.string s]
 | .flt,x,cs=>cs=[.float .f64 x]
 | .cpx,x,cs=>cs=[.complex .f64 x.1 x.2]
 | .ref t,l,cs=>∃ p,cs=[.pointer p]/\RP F (RT F t) t.w p l
 | .slc t,l,cs=>∃ a c,cs=[.slice a l.length c]/\RSl F (RT F t) t.w a c l
 | .unit,_,cs=>cs=[]
 | .pair a b,x,cs=>∃ c1 c2,cs=c1++c2/\RT F a x.1 c1/\RT F b x.2 c2
theorem RSl.mono {α:Type}{F F':Fz}{r r':α->List Value->Prop}{w:Nat}{a:Option Addr}{c:Nat}{l:List α}(he:F.ext F')(hr:∀ x cs,r x cs->r' x cs)(h:RSl F r w a c l):RSl F' r' w a c l :=
 ⟨h.cap,h.at_.imp id fun⟨b,o,B,h1,h2,h3,h4⟩=>⟨b,o,B,h1,he _ _ h2,h3,fun i x hx=>let ⟨cs,k1,k2⟩:=h4 i x hx;⟨cs,k1,hr _ _ k2⟩⟩⟩
theorem RT.mono {F F':Fz}(he:F.ext F'):∀ (t:Ty) (x:t.den) (cs:List Value),RT F t x cs->RT F' t x cs
 | .int _,_,_,h=>h
 | .bool,_,_,h=>h
 | .str,_,_,h=>h
 | .flt,_,_,h=>h
 | .cpx,_,_,h=>h
 | .unit,_,_,h=>h
 | .slc t,l,cs,⟨a,c,h1,h2⟩=>⟨a,c,h1,h2.mono he (RT.mono he t)⟩
 | .ref t,l,cs,⟨p,h1,h2⟩=>⟨p,h1,RP.mono he (RT.mono he t) h2⟩
 | .pair a b,x,cs,⟨c1,c2,h1,h2,h3⟩=>⟨c1,c2,h1,RT.mono he a _ _ h2,RT.mono he b _ _ h3⟩
theorem RT.len {F:Fz}:∀ (t:Ty) (x:t.den) (cs:List Value),RT F t x cs->cs.length=t.w
 | .int _,_,_,h=>by subst h;rfl
 | .bool,_,_,h=>by subst h;rfl
 | .str,_,_,h=>by subst h;rfl
 | .flt,_,_,h=>by subst h;rfl
 | .cpx,_,_,h=>by subst h;rfl
 | .unit,_,_,h=>by subst h;rfl
 | .slc t,l,cs,⟨a,c,h1,h2⟩=>by subst h1;rfl
 | .ref t,l,cs,⟨p,h1,h2⟩=>by subst h1;rfl
 | .pair a b,x,cs,⟨c1,c2,h1,h2,h3⟩=>by subst h1;simp[Ty.w,RT.len a _ _ h2,RT.len b _ _ h3]
theorem RT.good {F:Fz}:∀ (t:Ty) (x:t.den) (cs:List Value),RT F t x cs->cs.all (fun v => !lC v)=true/\cs.all Value.oneCell'=true
 | .int _,_,_,h=>by subst h;exact⟨rfl,rfl⟩
 | .bool,_,_,h=>by subst h;exact⟨rfl,rfl⟩
 | .str,_,_,h=>by subst h;exact⟨rfl,rfl⟩
 | .flt,_,_,h=>by subst h;exact⟨rfl,rfl⟩
 | .cpx,_,_,h=>by subst h;exact⟨rfl,rfl⟩
 | .unit,_,_,h=>by subst h;exact⟨rfl,rfl⟩
 | .slc t,l,cs,⟨a,c,h1,h2⟩=>by subst h1;exact⟨rfl,rfl⟩
 | .ref t,l,cs,⟨p,h1,h2⟩=>by subst h1;exact⟨rfl,rfl⟩
 | .pair a b,x,cs,⟨c1,c2,h1,h2,h3⟩=>by
   subst h1
   have k1:=RT.good a _ _ h2
   have k2:=RT.good b _ _ h3
   exact⟨by rw[List.all_append,k1.1,k2.1];rfl,by rw[List.all_append,k1.2,k2.2];rfl⟩
theorem RT.flat {F F':Fz}:∀ (t:Ty) (x:t.den) (cs:List Value),t.flat=true->RT F t x cs->RT F' t x cs
 | .int _,_,_,_,h=>h
 | .bool,_,_,_,h=>h
 | .str,_,_,_,h=>h
 | .flt,_,_,_,h=>h
 | .cpx,_,_,_,h=>h
 | .unit,_,_,_,h=>h
 | .slc t,l,cs,hf,_=>by cases hf
 | .ref t,l,cs,hf,_=>by cases hf
 | .pair a b,x,cs,hf,⟨c1,c2,h1,h2,h3⟩=>by
   simp only[Ty.flat,aH]at hf
   exact⟨c1,c2,h1,RT.flat a _ _ hf.1 h2,RT.flat b _ _ hf.2 h3⟩
def RC (F:Fz)(t:Ty)(l:List t.den)(azz:List Value):Prop:=azz.length=l.length*t.w/\∀ i x,l[i]? = some x->∃ cs,InB azz (i*t.w) t.w cs/\RT F t x cs
theorem RC.mono {F F':Fz}(he:F.ext F'){t:Ty}{l:List t.den}{azz:List Value}(h:RC F t l azz):RC F' t l azz :=
 ⟨h.1,fun i x hx=>let ⟨cs,h1,h2⟩:=h.2 i x hx;⟨cs,h1,RT.mono he _ _ _ h2⟩⟩
theorem RC.flat {n0:Nat->Bool}{F:Fz}{o:Bool}{t:Ty}{l:List t.den}{azz:List Value}(h:RC (cA o n0 F) t l azz):RC (cA (o||t.flat) n0 F) t l azz:=by
 cases hf:t.flat with
 | false=>rw[Bool.or_false];exact h
 | true=>exact⟨h.1,fun i x hx=>let ⟨cs,h1,h2⟩:=h.2 i x hx;⟨cs,h1,RT.flat _ _ _ hf h2⟩⟩
theorem RC.nil (F:Fz)(t:Ty):RC F t [] []:=⟨by simp,fun i x h=>by simp at h⟩
theorem RC.cons {F:Fz}{t:Ty}{x:t.den}{l:List t.den}{cs azz:List Value}(h:RT F t x cs)(k:RC F t l azz):RC F t (x::l) (cs++azz):=by
 have hl:=RT.len t x cs h
 refine⟨by rw[aR,k.1,hl,wM,fA];omega,?_⟩
 intro i y hy
 cases i with
 | zero =>
   simp only[List.getElem?_cons_zero,aX]at hy
   subst hy
   refine⟨cs,⟨by simp;omega,?_⟩,h⟩
   grind
 | succ i =>
   simp only[List.getElem?_cons_succ]at hy
   obtain⟨ds,⟨h1,h2⟩,h3⟩:=k.2 i y hy
   refine⟨ds,⟨by rw[aR,fA];omega,?_⟩,h3⟩
   rw[<- h2,fA,m8,<- hl,Nat.add_comm,<- s7,List.drop_left]
theorem RC.app {F:Fz}{t:Ty}:∀ {l m:List t.den} {azz bs:List Value},RC F t l azz->RC F t m bs->RC F t (l++m) (azz++bs):=by
 intro l
 induction l with
 | nil =>
   intro m azz bs h k
   have:azz=[]:=List.length_eq_zero_iff.1 (by rw[h.1];simp)
   subst this;exact k
 | cons x l ih =>
   intro m azz bs h k
   obtain⟨cs,⟨h1,h2⟩,h3⟩:=h.2 0 x (by simp)
   have hl:=RT.len t x cs h3
   have e:azz=cs++azz.drop t.w:=by
    rw[<- h2,Nat.zero_mul,EJ,nV]
   rw[e,bM,List.cons_append]
   refine RC.cons h3 (ih ⟨?_,?_⟩ k)
   ·rw[oB,h.1,wM,fA];omega
   ·intro i y hy
    obtain⟨ds,⟨g1,g2⟩,g3⟩:=h.2 (i+1) y (by simpa using hy)
    rw[fA,m8]at g1 g2
    refine⟨ds,⟨by rw[oB];omega,?_⟩,g3⟩
    rw[<- g2,s7,Nat.add_comm]
theorem RC.good {F:Fz}{t:Ty}:∀ {l:List t.den} {azz:List Value},RC F t l azz->azz.all (fun v => !lC v)=true/\azz.all Value.oneCell'=true:=by
 intro l
 induction l with
 | nil =>
   intro azz h
   have:azz=[]:=List.length_eq_zero_iff.1 (by rw[h.1];simp)
   subst this;exact⟨rfl,rfl⟩
 | cons x l ih =>
   intro azz h
   obtain⟨cs,⟨h1,h2⟩,h3⟩:=h.2 0 x (by simp)
   have e:azz=cs++azz.drop t.w:=by
    rw[<- h2,Nat.zero_mul,EJ,nV]
   have k:=ih (azz:=azz.drop t.w) ⟨by rw[oB,h.1,wM,fA];omega,fun i y hy=>by
    obtain⟨ds,⟨g1,g2⟩,g3⟩:=h.2 (i+1) y (by simpa using hy)
    rw[fA,m8]at g1 g2
    exact⟨ds,⟨by rw[oB];omega,by rw[<- g2,s7,Nat.add_comm]⟩,g3⟩⟩
   have k0:=RT.good t x cs h3
   grind
theorem RC.set {F:Fz}{t:Ty}{l:List t.den}{azz:List Value}(h:RC F t l azz){i:Nat}(hi:i<l.length){y:t.den}{cs:List Value}(hy:RT F t y cs):RC F t (l.set i y) (azz.take (i*t.w)++cs++azz.drop (i*t.w+t.w)):=by
 have hl:=RT.len t y cs hy
 have hb:i*t.w+t.w<=azz.length:=by
  rw[h.1]
  have:=uO t.w (show i+1<=l.length from hi)
  rw[fA,m8]at this;exact this
 have e1:l.set i y=l.take i++y::l.drop (i+1):=List.set_eq_take_append_cons_drop▸(by rw[aA hi])
 rw[e1,bM]
 refine RC.app ?_ (RC.cons hy ?_)
 ·refine⟨by rw[eI,eI,xG (by omega),xG (by omega)],?_⟩
  intro j x hx
  have hj:j<i:=by
   grind
  rw[List.getElem?_take_of_lt hj]at hx
  obtain⟨ds,⟨g1,g2⟩,g3⟩:=h.2 j x hx
  have hjj:=uO t.w (show j+1<=i from hj)
  rw[fA,m8]at hjj
  refine⟨ds,⟨by rw[eI];omega,?_⟩,g3⟩
  rw[<- g2,List.drop_take,List.take_take,xG (by omega)]
 ·refine⟨by rw[oB,oB,h.1,Nat.sub_mul,fA,m8],?_⟩
  intro j x hx
  rw[q8]at hx
  obtain⟨ds,⟨g1,g2⟩,g3⟩:=h.2 _ x hx
  rw[show i+1+j=(i+j)+1 by omega,fA,m8,fA]at g1 g2
  refine⟨ds,⟨by rw[oB];omega,?_⟩,g3⟩
  rw[<- g2,s7]
  congr 2;omega
theorem RC.slice {F:Fz}{t:Ty}{l:List t.den}{azz:List Value}(h:RC F t l azz){b:Nat}{B:Blk}(hB:B.cells=azz)(hF:F b=some B)(he:B.exact=true\/B.es=t.w):RSl F (RT F t) t.w (some ⟨b,0,none⟩) l.length l :=
 ⟨aF _,.inr ⟨b,0,B,rfl,hF,he,fun i x hx=>by obtain⟨cs,h1,h2⟩:=h.2 i x hx;exact⟨cs,by rw[e9,hB];exact h1,h2⟩⟩⟩
theorem RSl.sub {α:Type}{F:Fz}{r:α->List Value->Prop}{w b o c:Nat}{l:List α}(h:RSl F r w (some ⟨b,o,none⟩) c l){lo hi:Nat}(h1:lo<=hi)(h2:hi<=l.length){m:Nat}(hm:hi<=m):RSl F r w (some ⟨b,o+lo*w,none⟩) (m-lo) ((l.take hi).drop lo):=by
 refine⟨by simp;omega,?_⟩
 rcases h.at_ with rfl|⟨b',o',B,e,h3,h4,h5⟩
 ·exact .inl (by simp)
 ·grind
structure Ctx where
 n0:Nat->Bool
 F:Fz
 ρ:Nat->Option Nat
 h:List VO
 hs:Nat->Value->Prop
def RL (c:Ctx):VV->Value->Prop
 | .pl v,a=>a=v/\fX v=true
 | .fz o t l,a=>∃ ad k,a = .slice ad l.length k/\RSl (cA o c.n0 c.F) (RT (cA o c.n0 c.F) t) t.w ad k l
 | .own i,a=>match c.h[i]? with
   | some (.lst _ _ l _)=>a=sl (c.ρ i) l.length
   | some (.dead _)=>∃ n k,a = .slice ((c.ρ i).map fun b=>⟨b,0,none⟩) n k
   | _=>False
 | .ptr i off,a=>∃ b cs fr,c.h[i]? = some (.box cs fr)/\c.ρ i=some b/\a = .pointer (some ⟨b,off,none⟩)
 | .eptr i ix off,a=>∃ b,c.ρ i=some b/\(match c.h[i]? with
   | some (.lst _ t l _)=>ix<l.length/\a = .pointer (some ⟨b,ix*t.w+off,none⟩)
   | some (.dead _)=>∃ q,a = .pointer (some ⟨b,q,none⟩)
   | _=>False)
 | .fptr o t l ix off,a=>∃ b q B x cs,a = .pointer (some ⟨b,q+off,none⟩)/\cA o c.n0 c.F b=some B/\l[ix]? = some x/\InB B.cells q t.w cs/\RT (cA o c.n0 c.F) t x cs
 | .hof i,a=>c.hs i a
 | .mptr i off,a=>a=undef\/∃ b,c.ρ i=some b/\i<c.h.length/\a = .pointer (some ⟨b,off,none⟩)
 | .er b,a=>(b=true/\a = .nilIface)\/(b=false/\∃ t u,a = .iface t u)
 | .undef,_=>True
 | _,_=>False
def R1 (c:Ctx):VV->Value->Prop
 | .agg l,a=>∃ azz,a = .agg azz.toArray/\All2 (RL c) l azz
 | .bx l off,a=>∃ b B,a = .pointer (some ⟨b,off,none⟩)/\c.F b=some B/\All2 (RL c) l B.cells
 | .bs l,a=>∃ b B k,a = .slice (some ⟨b,0,none⟩) l.length k/\c.F b=some B/\(B.exact=true\/B.es=1)/\All2 (RL c) l B.cells
 | v,a=>RL c v a
def R2 (c:Ctx):VV->Value->Prop
 | .tup l,a=>∃ azz,a = .tuple azz.toArray/\All2 (R1 c) l azz
 | .fn f l,a=>∃ azz,a = .func (.func f) #[] azz.toArray/\All2 (R1 c) l azz
 | v,a=>R1 c v a
def VO.le:VO->VO->Prop
 | .box _ _,.box _ _=>True
 | .lst _ t l _,.lst _ t' l' _=>t=t'/\l.length=l'.length
 | .lst _ _ _ _,.dead _=>True
 | .dead _,.dead _=>True
 | _,_=>False
structure Le (c c':Ctx):Prop where
 n0:c'.n0=c.n0
 F:c.F.ext c'.F
 hs:c'.hs=c.hs
 len:c.h.length<=c'.h.length
 ρ:∀ i,i<c.h.length->c'.ρ i=c.ρ i
 h:∀ (i:Nat) (o:VO),c.h[i]? = some o->∃ o',c'.h[i]? = some o'/\VO.le o o'
theorem VO.le_refl:∀ o:VO,VO.le o o
 | .box _ _=>trivial
 | .lst _ _ _ _=>⟨rfl,rfl⟩
 | .dead _=>trivial
theorem VO.le_trans:∀ {a b c:VO},VO.le a b->VO.le b c->VO.le a c
 | .box _ _,.box _ _,.box _ _,_,_=>trivial
 | .lst _ _ _ _,.lst _ _ _ _,.lst _ _ _ _,h,k=>⟨h.1.trans k.1,h.2.trans k.2⟩
 | .lst _ _ _ _,.lst _ _ _ _,.dead _,_,_=>trivial
 | .lst _ _ _ _,.dead _,.dead _,_,_=>trivial
 | .dead _,.dead _,.dead _,_,_=>trivial
theorem Le.refl (c:Ctx):Le c c:=⟨rfl,Fz.ext_refl _,rfl,aF _,fun _ _=>rfl,fun _ o h=>⟨o,h,VO.le_refl o⟩⟩
theorem Le.trans {a b c:Ctx}(h:Le a b)(k:Le b c):Le a c :=
 ⟨k.n0.trans h.n0,Fz.ext_trans h.F k.F,k.hs.trans h.hs,bY h.len k.len,fun i hi=>(k.ρ i (dC hi h.len)).trans (h.ρ i hi),fun i o ho=>by
   obtain⟨o1,h1,h2⟩:=h.h i o ho
   obtain⟨o2,h3,h4⟩:=k.h i o1 h1
   exact⟨o2,h3,VO.le_trans h2 h4⟩⟩
theorem bB {α:Type}{l:List α}{i:Nat}{x:α}(h:l[i]? = some x):i<l.length:=(List.getElem?_eq_some_iff.1 h).1
theorem RL.mono {c c':Ctx}(hle:Le c c'):∀ (v:VV) (a:Value),RL c v a->RL c' v a:=by
 intro v a h
 cases v with
 | pl v=>exact h
 | fz o t l =>
   obtain⟨ad,k,h1,h2⟩:=h
   refine⟨ad,k,h1,?_⟩
   rw[hle.n0]
   exact h2.mono (oQ hle.F) (RT.mono (oQ hle.F) t)
 | own i =>
   simp only[RL]at h⊢
   cases ho:c.h[i]? with
   | none=>rw[ho]at h;exact h.elim
   | some o =>
     rw[ho]at h
     obtain⟨o',h1,h2⟩:=hle.h i o ho
     rw[h1,hle.ρ i (bB ho)]
     cases o with
     | box cs fr=>exact h.elim
     | dead b =>
       cases o' with
       | dead b'=>exact h
       | _=>exact h2.elim
     | lst o t l fr =>
       cases o' with
       | box cs fr=>exact h2.elim
       | dead b'=>exact⟨_,_,h⟩
       | lst o' t' l' fr'=>simp only at h⊢;rw[h,h2.2]
 | ptr i off =>
   obtain⟨b,cs,fr,h1,h2,h3⟩:=h
   obtain⟨o',k1,k2⟩:=hle.h i _ h1
   cases o' with
   | box cs' fr'=>exact⟨b,cs',fr',k1,(hle.ρ i (bB h1)).trans h2,h3⟩
   | _=>exact k2.elim
 | mptr i off =>
   rcases h with h|⟨b,h1,h2,h3⟩
   ·exact .inl h
   ·exact .inr ⟨b,(hle.ρ i h2).trans h1,dC h2 hle.len,h3⟩
 | eptr i ix off =>
   obtain⟨b,h1,h2⟩:=h
   cases ho:c.h[i]? with
   | none=>rw[ho]at h2;exact h2.elim
   | some o =>
     rw[ho]at h2
     obtain⟨o',k1,k2⟩:=hle.h i o ho
     refine⟨b,(hle.ρ i (bB ho)).trans h1,?_⟩
     rw[k1]
     cases o with
     | box cs fr=>exact h2.elim
     | dead b =>
       cases o' with
       | dead b'=>exact h2
       | _=>exact k2.elim
     | lst o t l fr =>
       cases o' with
       | box cs fr=>exact k2.elim
       | dead b'=>exact⟨_,h2.2⟩
       | lst o' t' l' fr' =>
         obtain⟨e1,e2⟩:=k2
         grind
 | fptr o t l ix off =>
   obtain⟨b,q,B,x,cs,h1,h2,h3,h4,h5⟩:=h
   refine⟨b,q,B,x,cs,h1,?_,h3,h4,?_⟩
   ·rw[hle.n0];exact oQ hle.F _ _ h2
   ·rw[hle.n0];exact RT.mono (oQ hle.F) _ _ _ h5
 | hof i=>simp only[RL]at h⊢;rw[hle.hs];exact h
 | er b=>exact h
 | bs l=>exact h
 | undef=>trivial
 | agg l=>exact h
 | tup l=>exact h
 | bx l off=>exact h
 | fn f l=>exact h
 | nw t l=>exact h
theorem R1.mono {c c':Ctx}(hle:Le c c'):∀ (v:VV) (a:Value),R1 c v a->R1 c' v a:=by
 intro v a h
 cases v with
 | agg l=>obtain⟨azz,h1,h2⟩:=h;exact⟨azz,h1,h2.mono (RL.mono hle)⟩
 | bx l off=>obtain⟨b,B,h1,h2,h3⟩:=h;exact⟨b,B,h1,hle.F _ _ h2,h3.mono (RL.mono hle)⟩
 | bs l=>obtain⟨b,B,k,h1,h2,h4,h3⟩:=h;exact⟨b,B,k,h1,hle.F _ _ h2,h4,h3.mono (RL.mono hle)⟩
 | _=>simp only[R1]at h⊢;exact RL.mono hle _ _ h
theorem R2.mono {c c':Ctx}(hle:Le c c'):∀ (v:VV) (a:Value),R2 c v a->R2 c' v a:=by
 intro v a h
 cases v with
 | tup l=>obtain⟨azz,h1,h2⟩:=h;exact⟨azz,h1,h2.mono (R1.mono hle)⟩
 | fn f l=>obtain⟨azz,h1,h2⟩:=h;exact⟨azz,h1,h2.mono (R1.mono hle)⟩
 | _=>simp only[R2]at h⊢;exact R1.mono hle _ _ h
theorem RT.enc {c:Ctx}{o:Bool}:∀ (t:Ty) (x:t.den) (cs:List Value),RT (cA o c.n0 c.F) t x cs->All2 (RL c) (enc o t x) cs
 | .int k,n,cs,h=>by subst h;exact .cons ⟨rfl,rfl⟩ .nil
 | .bool,b,cs,h=>by subst h;exact .cons ⟨rfl,rfl⟩ .nil
 | .str,s,cs,h=>by subst h;exact .cons ⟨rfl,rfl⟩ .nil
 | .flt,s,cs,h=>by subst h;exact .cons ⟨rfl,rfl⟩ .nil
 | .cpx,s,cs,h=>by subst h;exact .cons ⟨rfl,rfl⟩ .nil
 | .unit,_,cs,h=>by subst h;exact .nil
 | .slc t,l,cs,⟨a,k,h1,h2⟩=>by subst h1;exact .cons ⟨a,k,rfl,h2⟩ .nil
 | .ref t,[],cs,⟨p,h1,h2⟩=>by
   have h2:p=none:=h2
   subst h1 h2;exact .cons ⟨rfl,rfl⟩ .nil
 | .ref t,[x],cs,⟨p,h1,b,B,cs',h2,h3,h4,h5⟩=>by subst h1 h2;exact .cons ⟨b,0,B,x,cs',rfl,h3,rfl,h4,h5⟩ .nil
 | .ref t,_::_::_,cs,⟨p,h1,h2⟩=>h2.elim
 | .pair a b,x,cs,⟨c1,c2,h1,h2,h3⟩=>by subst h1;exact(RT.enc a _ _ h2).app (RT.enc b _ _ h3)
structure ObjOk (c:Ctx)(H:aD)(i:Nat)(o:VO):Prop where
 lo:∀ b,c.ρ i=some b->c.n0 b=false/\b<H.length
 box:∀ cs fr,o = .box cs fr->∃ b azz,c.ρ i=some b/\blk? H b=some ⟨azz,0,true,true⟩/\All2 (RL c) cs azz/\(fr=true->c.F b=some ⟨azz,0,true,true⟩)/\(fr=false->c.F b=none)
 lst:∀ q t l fr,o = .lst q t l fr->(c.ρ i=none->l=[])/\∀ b,c.ρ i=some b->∃ azz ex,blk? H b=some ⟨azz,t.w,ex,true⟩/\RC (cA q c.n0 c.F) t l azz/\(fr=true->c.F b=some ⟨azz,t.w,ex,true⟩)/\(fr=false->c.F b=none)
 dead:∀ b,o = .dead true->c.ρ i=some b->c.F b=none
def AG:VO->Bool
 | .box _ _=>true
 | _=>false
def BJ (ρ:Nat->Option Nat)(h:List VO):Prop:=∀ (i j b:Nat) (o:VO),i≠j->ρ i=some b->ρ j=some b->h[i]? = some o->AG o=false
theorem VO.le_bx:∀ {o o':VO},VO.le o o'->AG o'=true->AG o=true
 | .box _ _,.box _ _,_,_=>rfl
 | .lst _ _ _ _,.box _ _,h,_=>h.elim
 | .lst _ _ _ _,.lst _ _ _ _,_,e=>by cases e
 | .lst _ _ _ _,.dead _,_,e=>by cases e
 | .dead _,.box _ _,h,_=>h.elim
 | .dead _,.lst _ _ _ _,h,_=>h.elim
 | .dead _,.dead _,_,e=>by cases e
theorem BJ.of {ρ:Nat->Option Nat}{h h':List VO}(k:BJ ρ h)(e:∀ (i:Nat) (o':VO),h'[i]? = some o'->∃ o,h[i]? = some o/\(AG o'=true->AG o=true)):BJ ρ h':=fun i j b o' hij e1 e2 hp=>by
 obtain⟨o,h1,h2⟩:=e i o' hp
 have:=k i j b o hij e1 e2 h1
 cases q:AG o' with
 | false=>rfl
 | true=>rw[h2 q]at this;cases this
theorem BJ.set {ρ:Nat->Option Nat}{h:List VO}(k:BJ ρ h){i:Nat}{o o':VO}(hi:h[i]? = some o)(ho:AG o'=true->AG o=true):BJ ρ (h.set i o'):=k.of fun a p hp=>by
 by_cases e:i=a
 ·subst e
  rw[gQ (bB hi)]at hp;cases hp
  exact⟨o,hi,ho⟩
 ·rw[dK e]at hp;exact⟨p,hp,fun e=>e⟩
theorem BJ.add {ρ:Nat->Option Nat}{h:List VO}(k:BJ ρ h){a:Option Nat}{o:VO}(ha:∀ b,a=some b->∀ i,ρ i≠some b):BJ (fun i=>if i=h.length then a else ρ i) (h++[o]):=fun x y b p hxy e1 e2 hp=>by
 have e1:(if x=h.length then a else ρ x)=some b:=e1
 have e2:(if y=h.length then a else ρ y)=some b:=e2
 split at e1
 ·split at e2
  ·omega
  ·exact absurd e2 (ha b e1 y)
 ·split at e2
  ·exact absurd e1 (ha b e2 x)
  ·have hx:=bB hp
   rw[aR,List.length_singleton]at hx
   rw[dL (by omega)]at hp
   exact k x y b p hxy e1 e2 hp
theorem BJ.twin {ρ:Nat->Option Nat}{h:List VO}(k:BJ ρ h){i:Nat}{o o':VO}(hi:h[i]? = some o)(ho:AG o=false)(ho':AG o'=false):BJ (fun j=>if j=h.length then ρ i else ρ j) (h++[o']):=fun x y b p hxy e1 e2 hp=>by
 have e1:(if x=h.length then ρ i else ρ x)=some b:=e1
 have e2:(if y=h.length then ρ i else ρ y)=some b:=e2
 by_cases hx:x=h.length
 ·subst hx
  rw[o5 (aF _),Nat.sub_self]at hp
  cases hp;exact ho'
 ·rw[aC hx]at e1
  have hx':=bB hp
  rw[aR,List.length_singleton]at hx'
  rw[dL (by omega)]at hp
  by_cases hxi:x=i
  ·subst hxi;rw[hi]at hp;cases hp;exact ho
  ·split at e2
   ·exact k x i b p hxi e1 e2 hp
   ·exact k x y b p hxy e1 e2 hp
structure Base where
 H:aD
 N:Nat->Bool
 lt:∀ b,N b=true->b<H.length
def bs (H:aD):Base:=⟨H,fun b=>decide (b<H.length),fun b h=>tX h⟩
structure PreB (B:Base)(H:aD):Prop where
 len:B.H.length<=H.length
 get:∀ b,B.N b=true->H[b]? = B.H[b]?
theorem PreB.trans {B:Base}{H H':aD}(h:PreB B H)(k:Pre H H'):PreB B H':=⟨bY h.len k.len,fun b hb=>(k.get b (dC (B.lt b hb) h.len)).trans (h.get b hb)⟩
theorem PreB.upd {B:Base}{H H':aD}{b:Nat}(h:PreB B H)(u:Upd H H' b)(hb:B.N b=false):PreB B H' :=
 ⟨by rw[u.len];exact h.len,fun i hi=>(u.get i (fun e=>by rw[e,hb]at hi;cases hi)).trans (h.get i hi)⟩
theorem PreB.refl (H:aD):PreB (bs H) H:=⟨aF _,fun _ _=>rfl⟩
theorem PreB.pre {H H':aD}(h:PreB (bs H) H'):Pre H H':=⟨h.len,fun b hb=>h.get b (gB hb)⟩
theorem WX {H:aD}{b:Nat}(h:(bs H).N b=false):H.length<=b:=Nat.not_lt.1 (of_decide_eq_false h)
def Fl (fl:Nat)(B:Base):Prop:=∀ b,B.N b=false->fl<=b
theorem Fl.bs {fl:Nat}{H:aD}(h:fl<=H.length):Fl fl (bs H):=fun b hb=>bY h (WX hb)
theorem Base.new (B:Base){b:Nat}(h:B.H.length<=b):B.N b=false:=by
 cases e:B.N b with
 | false=>rfl
 | true=>have:=B.lt b e;omega
structure Ok (F0:Fz)(H0:Base)(c:Ctx)(H:aD):Prop where
 n0:c.n0=H0.N
 pre:PreB H0 H
 fz:∀ b B,c.F b=some B->blk? H b=some B
 low:∀ b,H0.N b=true->c.F b=F0 b
 obj:∀ (i:Nat) (o:VO),c.h[i]? = some o->ObjOk c H i o
 inj:∀ (i j b:Nat),i≠j->c.ρ i=some b->c.ρ j=some b->c.h[i]? = some (.dead false)\/c.h[j]? = some (.dead false)
 bj:BJ c.ρ c.h
 dom:∀ i,c.h.length<=i->c.ρ i=none
end Go.Mach
