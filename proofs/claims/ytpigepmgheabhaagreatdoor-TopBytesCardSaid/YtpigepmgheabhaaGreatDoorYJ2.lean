/- Part of the proof. No condition. -/
import Derived.Test.YtpigepmgheabhaaGreatDoorYJ1
namespace Go.Mach.J
open Go Go.Mach
def chk (b:Bool)(p:Prop):Prop:=Bool.rec (motive:=fun _=>Prop) False p b
def ifB (b:Bool)(p q:Prop):Prop:=Bool.rec (motive:=fun _=>Prop) q p b
def cG (n:Nat)(k:Nat->Prop):Prop:=Nat.rec (motive:=fun _=>Prop) (k 0) (fun m _=>k (Nat.succ m)) n
def HW (n:Int)(k:Int->Prop):Prop:=Int.rec (motive:=fun _=>Prop) (fun a=>cG a fun a=>k (.ofNat a)) (fun a=>cG a fun a=>k (.negSucc a)) n
def aBS (b:Bool)(k:Bool->Prop):Prop:=Bool.rec (motive:=fun _=>Prop) (k false) (k true) b
def aA3 (i:IntKind)(k:IntKind->Prop):Prop:=IntKind.rec (motive:=fun _=>Prop) (k .i8) (k .i16) (k .i32) (k .i64) (k .u8) (k .u16) (k .u32) (k .u64) i
def fN {α:Type}(o:Option α)(n:Prop)(k:α->Prop):Prop:=Option.rec (motive:=fun _=>Prop) n k o
def aB1 (a:Addr)(k:Addr->Prop):Prop:=Addr.rec (motive:=fun _=>Prop) (fun b o s=>cG b fun b=>cG o fun o=>fN s (k ⟨b,o,none⟩) fun s=>k ⟨b,o,some s⟩) a
def UI (a:Option Addr)(k:Option Addr->Prop):Prop:=fN a (k none) fun a=>aB1 a fun a=>k (some a)
def UD (v:Value)(k:Value->Prop):Prop:=Value.rec (motive_1:=fun _=>Prop) (motive_2:=fun _=>Prop) (motive_3:=fun _=>Prop) (fun b=>aBS b fun b=>k (.bool b)) (fun i n=>aA3 i fun i=>HW n fun n=>k (.int i n)) (fun a b=>k (.float a b)) (fun a b c=>k (.complex a b c)) (fun s=>k (.string s)) (fun a=>UI a fun a=>k (.pointer a)) (fun a l c=>UI a fun a=>cG l fun l=>cG c fun c=>k (.slice a l c)) (fun r=>k (.map r)) (fun r=>k (.chan r)) (fun f a b _ _=>k (.func f a b)) (k .nilFunc) (fun t v _=>k (.iface t v)) (k .nilIface) (fun cs _=>k (.agg cs)) (fun vs _=>k (.tuple vs)) (fun _ _=>False) False (fun _ _ _ _=>False) v
def oS (v:Value)(k:IntKind->Int->Prop)(e:Prop):Prop:=Value.rec (motive_1:=fun _=>Prop) (motive_2:=fun _=>Prop) (motive_3:=fun _=>Prop) (fun _=>e) (fun i n=>k i n) (fun _ _=>e) (fun _ _ _=>e) (fun _=>e) (fun _=>e) (fun _ _ _=>e) (fun _=>e) (fun _=>e) (fun _ _ _ _ _=>e) (e) (fun _ _ _=>e) (e) (fun _ _=>e) (fun _ _=>e) (fun _ _=>False) False (fun _ _ _ _=>False) v
def JH (v:Value)(k:Bool->Prop):Prop:=Value.rec (motive_1:=fun _=>Prop) (motive_2:=fun _=>Prop) (motive_3:=fun _=>Prop) (fun b=>k b) (fun _ _=>False) (fun _ _=>False) (fun _ _ _=>False) (fun _=>False) (fun _=>False) (fun _ _ _=>False) (fun _=>False) (fun _=>False) (fun _ _ _ _ _=>False) (False) (fun _ _ _=>False) (False) (fun _ _=>False) (fun _ _=>False) (fun _ _=>False) False (fun _ _ _ _=>False) v
def wD (v:Value)(k:Addr->Prop):Prop:=Value.rec (motive_1:=fun _=>Prop) (motive_2:=fun _=>Prop) (motive_3:=fun _=>Prop) (fun _=>False) (fun _ _=>False) (fun _ _=>False) (fun _ _ _=>False) (fun _=>False) (fun a=>fN a False k) (fun _ _ _=>False) (fun _=>False) (fun _=>False) (fun _ _ _ _ _=>False) (False) (fun _ _ _=>False) (False) (fun _ _=>False) (fun _ _=>False) (fun _ _=>False) False (fun _ _ _ _=>False) v
def iI (v:Value)(k:Option Addr->Nat->Nat->Prop)(e:Prop):Prop:=Value.rec (motive_1:=fun _=>Prop) (motive_2:=fun _=>Prop) (motive_3:=fun _=>Prop) (fun _=>e) (fun _ _=>e) (fun _ _=>e) (fun _ _ _=>e) (fun _=>e) (fun _=>e) (fun a l c=>k a l c) (fun _=>e) (fun _=>e) (fun _ _ _ _ _=>e) (e) (fun _ _ _=>e) (e) (fun _ _=>e) (fun _ _=>e) (fun _ _=>False) False (fun _ _ _ _=>False) v
def aCj (v:Value)(k:ByteArray->Prop)(e:Prop):Prop:=Value.rec (motive_1:=fun _=>Prop) (motive_2:=fun _=>Prop) (motive_3:=fun _=>Prop) (fun _=>e) (fun _ _=>e) (fun _ _=>e) (fun _ _ _=>e) (fun s=>k s) (fun _=>e) (fun _ _ _=>e) (fun _=>e) (fun _=>e) (fun _ _ _ _ _=>e) (e) (fun _ _ _=>e) (e) (fun _ _=>e) (fun _ _=>e) (fun _ _=>False) False (fun _ _ _ _=>False) v
def aBv (v:Value)(k:Fn->Array Value->Array Value->Prop):Prop:=Value.rec (motive_1:=fun _=>Prop) (motive_2:=fun _=>Prop) (motive_3:=fun _=>Prop) (fun _=>False) (fun _ _=>False) (fun _ _=>False) (fun _ _ _=>False) (fun _=>False) (fun _=>False) (fun _ _ _=>False) (fun _=>False) (fun _=>False) (fun f a b _ _=>k f a b) (False) (fun _ _ _=>False) (False) (fun _ _=>False) (fun _ _=>False) (fun _ _=>False) False (fun _ _ _ _=>False) v
def aEi (v:Value)(k:Array Value->Prop)(e:Prop):Prop:=Value.rec (motive_1:=fun _=>Prop) (motive_2:=fun _=>Prop) (motive_3:=fun _=>Prop) (fun _=>e) (fun _ _=>e) (fun _ _=>e) (fun _ _ _=>e) (fun _=>e) (fun _=>e) (fun _ _ _=>e) (fun _=>e) (fun _=>e) (fun _ _ _ _ _=>e) (e) (fun _ _ _=>e) (e) (fun a _=>k a) (fun _ _=>e) (fun _ _=>False) False (fun _ _ _ _=>False) v
def aA0 (v:Value)(p:Prop):Prop:=Value.rec (motive_1:=fun _=>Prop) (motive_2:=fun _=>Prop) (motive_3:=fun _=>Prop) (fun _=>p) (fun _ _=>p) (fun _ _=>p) (fun _ _ _=>p) (fun _=>p) (fun _=>p) (fun _ _ _=>p) (fun _=>p) (fun _=>p) (fun _ _ _ _ _=>p) (p) (fun _ _ _=>p) (p) (fun a _=>False) (fun a _=>False) (fun _ _=>False) False (fun _ _ _ _=>False) v
theorem bU {b:Bool}{p:Prop}:chk b p ↔ b=true/\p:=by
 cases b
 ·exact⟨False.elim,fun h=>nomatch h.1⟩
 ·exact⟨fun h=>⟨rfl,h⟩,And.right⟩
theorem cO {b:Bool}{p q:Prop}:ifB b p q ↔ (b=true/\p)\/(b=false/\q):=by
 cases b
 ·exact⟨fun h => .inr ⟨rfl,h⟩,fun h=>h.elim (fun h=>nomatch h.1) And.right⟩
 ·exact⟨fun h => .inl ⟨rfl,h⟩,fun h=>h.elim And.right (fun h=>nomatch h.1)⟩
theorem aZ {n:Nat}{k:Nat->Prop}:cG n k ↔ k n:=by cases n <;> exact Iff.rfl
theorem rC {n:Int}{k:Int->Prop}:HW n k ↔ k n:=by
 cases n with
 | ofNat a=>exact aZ (k:=fun a=>k (.ofNat a))
 | negSucc a=>exact aZ (k:=fun a=>k (.negSucc a))
theorem UJ {n:Bool}{k:Bool->Prop}:aBS n k ↔ k n:=by cases n <;> exact Iff.rfl
theorem U0 {n:IntKind}{k:IntKind->Prop}:aA3 n k ↔ k n:=by cases n <;> exact Iff.rfl
theorem HR {α:Type}{a:α}{n:Prop}{k:α->Prop}:fN (some a) n k ↔ k a:=Iff.rfl
theorem VI {a:Addr}{k:Addr->Prop}:aB1 a k ↔ k a:=by
 obtain⟨b,o,s⟩:=a
 refine(aZ (k:=fun b=>cG o fun o=>fN s (k ⟨b,o,none⟩) fun s=>k ⟨b,o,some s⟩)).trans ((aZ (k:=fun o=>fN s (k ⟨b,o,none⟩) fun s=>k ⟨b,o,some s⟩)).trans ?_)
 cases s <;> exact Iff.rfl
theorem IK {a:Option Addr}{k:Option Addr->Prop}:UI a k ↔ k a:=by
 cases a
 ·exact Iff.rfl
 ·rename_i a
  exact VI (k:=fun a=>k (some a))
theorem LI {v:Value}{k:Value->Prop}:UD v k ↔ k v:=by
 cases v with
 | bool b=>exact UJ (k:=fun b=>k (.bool b))
 | int i n=>exact(U0 (k:=fun i=>HW n fun n=>k (.int i n))).trans (rC (k:=fun n=>k (.int i n)))
 | pointer a=>exact IK (k:=fun a=>k (.pointer a))
 | slice a l c=>exact(IK (k:=fun a=>cG l fun l=>cG c fun c=>k (.slice a l c))).trans ((aZ (k:=fun l=>cG c fun c=>k (.slice a l c))).trans (aZ (k:=fun c=>k (.slice a l c))))
 | _=>exact Iff.rfl
theorem fD {v:Value}{k:IntKind->Int->Prop}{e:Prop}(h:oS v k e):(∃ i n,v = .int i n/\k i n)\/e:=by
 cases v with
 | int i n=>exact .inl ⟨i,n,rfl,h⟩
 | _=>exact .inr h
theorem HK {v:Value}{k:Bool->Prop}(h:JH v k):∃ b,v = .bool b/\k b:=by
 cases v with
 | bool b=>exact⟨b,rfl,h⟩
 | _=>exact h.elim
theorem tU {v:Value}{k:Addr->Prop}(h:wD v k):∃ a,v = .pointer (some a)/\k a:=by
 cases v with
 | pointer a=>cases a with
   | none=>exact h.elim
   | some a=>exact⟨a,rfl,h⟩
 | _=>exact h.elim
theorem dV {v:Value}{k:Option Addr->Nat->Nat->Prop}{e:Prop}(h:iI v k e):(∃ a l c,v = .slice a l c/\k a l c)\/e:=by
 cases v with
 | slice a l c=>exact .inl ⟨a,l,c,rfl,h⟩
 | _=>exact .inr h
theorem M2 {v:Value}{k:ByteArray->Prop}{e:Prop}(h:aCj v k e):(∃ s,v = .string s/\k s)\/e:=by
 cases v with
 | string s=>exact .inl ⟨s,rfl,h⟩
 | _=>exact .inr h
theorem V5 {v:Value}{k:Fn->Array Value->Array Value->Prop}(h:aBv v k):∃ f a b,v = .func f a b/\k f a b:=by
 cases v with
 | func f a b=>exact⟨f,a,b,rfl,h⟩
 | _=>exact h.elim
theorem ZS {v:Value}{k:Array Value->Prop}{e:Prop}(h:aEi v k e):(∃ a,v = .agg a/\k a)\/(v.cells = #[v]/\e):=by
 cases v with
 | agg a=>exact .inl ⟨a,rfl,h⟩
 | _=>exact .inr ⟨rfl,h⟩
theorem MW {v:Value}{p:Prop}(h:aA0 v p):v.oneCell'=true/\lC v=false/\p:=by
 cases v with
 | agg a=>exact h.elim
 | tuple a=>exact h.elim
 | _=>exact⟨rfl,rfl,h⟩
def sE (o:Option Value)(k:Value->Prop):Prop:=fN o False fun v=>UD v k
theorem yJ {o:Option Value}{k:Value->Prop}(h:sE o k):∃ v,o=some v/\k v:=by
 cases o with
 | none=>exact h.elim
 | some v=>exact⟨v,rfl,LI.1 h⟩
abbrev NV:=N16 Value
inductive WT|mk (f:TT->(NV->Prop)->Prop)
inductive WV|mk (f:NV->(Value->Prop)->Prop)
inductive QT|mk (f:NV->TT->(TT->Prop)->Prop)
inductive QV|mk (f:Value->NV->(NV->Prop)->Prop)
def aEw:D->WT
 | .d0 => .mk g0T
 | .d1 => .mk g1T
 | .d2 => .mk g2T
 | .d3 => .mk g3T
 | .d4 => .mk g4T
 | .d5 => .mk g5T
 | .d6 => .mk g6T
 | .d7 => .mk g7T
 | .d8 => .mk g8T
 | .d9 => .mk g9T
 | .d10 => .mk aH6
 | .d11 => .mk aGg
 | .d12 => .mk aG7
 | .d13 => .mk aGd
 | .d14 => .mk aH0
 | .d15 => .mk aHY
def aHs:D->WV
 | .d0 => .mk g0V
 | .d1 => .mk g1V
 | .d2 => .mk g2V
 | .d3 => .mk g3V
 | .d4 => .mk g4V
 | .d5 => .mk g5V
 | .d6 => .mk g6V
 | .d7 => .mk g7V
 | .d8 => .mk g8V
 | .d9 => .mk g9V
 | .d10 => .mk aGy
 | .d11 => .mk aHF
 | .d12 => .mk aHD
 | .d13 => .mk aGu
 | .d14 => .mk aHH
 | .d15 => .mk aGi
def tqT:D->QT
 | .d0 => .mk p0T
 | .d1 => .mk p1T
 | .d2 => .mk p2T
 | .d3 => .mk p3T
 | .d4 => .mk p4T
 | .d5 => .mk p5T
 | .d6 => .mk p6T
 | .d7 => .mk p7T
 | .d8 => .mk p8T
 | .d9 => .mk p9T
 | .d10 => .mk aHK
 | .d11 => .mk aHT
 | .d12 => .mk aHh
 | .d13 => .mk aGr
 | .d14 => .mk aH8
 | .d15 => .mk aGV
def tqV:D->QV
 | .d0 => .mk p0V
 | .d1 => .mk p1V
 | .d2 => .mk p2V
 | .d3 => .mk p3V
 | .d4 => .mk p4V
 | .d5 => .mk p5V
 | .d6 => .mk p6V
 | .d7 => .mk p7V
 | .d8 => .mk p8V
 | .d9 => .mk p9V
 | .d10 => .mk aGv
 | .d11 => .mk aG2
 | .d12 => .mk aG0
 | .d13 => .mk aGe
 | .d14 => .mk aH5
 | .d15 => .mk aGc
inductive KG|mk (f:TT->(Value->Prop)->Prop)
inductive KW|mk (f:Value->TT->(TT->Prop)->Prop)
def rr (f:TT->(NV->Prop)->Prop)(g:NV->(Value->Prop)->Prop)(T:TT)(k:Value->Prop):Prop:=f T fun u=>g u k
def rv (v:Value)(_:TT)(k:Value->Prop):Prop:=k v
def aHW (_:TT)(_:Value->Prop):Prop:=False
def ww (f:TT->(NV->Prop)->Prop)(p:Value->NV->(NV->Prop)->Prop)(q:NV->TT->(TT->Prop)->Prop)(v:Value)(T:TT)(k:TT->Prop):Prop:=f T fun u=>p v u fun u=>q u T k
def cr (d:Nat):KG:=match aEw (dig (d / 16)),aHs (dig (d%16))with
 | .mk f,.mk g => .mk (rr f g)
def cw (d:Nat):KW:=match aEw (dig (d / 16)),tqV (dig (d%16)),tqT (dig (d / 16))with
 | .mk f,.mk p,.mk q => .mk (ww f p q)
def rd (g:KG)(T:TT)(k:Value->Prop):Prop:=KG.rec (motive:=fun _=>Prop) (fun f=>f T k) g
def wr (w:KW)(v:Value)(T:TT)(k:TT->Prop):Prop:=KW.rec (motive:=fun _=>Prop) (fun f=>f v T k) w
def cg:Operand->KG
 | .tmp i=>match Nat.blt i 256 with
   | true=>cr i
   | false => .mk aHW
 | .const v => .mk (rv v)
 | .func f => .mk (rv (.func (.func f) ⟨[]⟩ ⟨[]⟩))
 | .global _ => .mk aHW
def TRel (T:TT)(t:aE):Prop:=∀ i,i<256->T.get i=t i
theorem XE (d:D):aEw d = .mk (aDg d):=by cases d <;> rfl
theorem aDv (d:D):aHs d = .mk (aDI d):=by cases d <;> rfl
theorem aFs (d:D):tqT d = .mk (aBG d):=by cases d <;> rfl
theorem aGG (d:D):tqV d = .mk (aD8 d):=by cases d <;> rfl
theorem aGs (d:Nat):cr d = .mk (rr (aDg (dig (d / 16))) (aDI (dig (d%16)))):=by
 simp only[cr,XE,aDv]
theorem aHb (d:Nat):cw d = .mk (ww (aDg (dig (d / 16))) (aD8 (dig (d%16))) (aBG (dig (d / 16)))):=by
 simp only[cw,XE,aGG,aFs]
theorem bP {x:Operand}{T:TT}{t:aE}{k:Value->Prop}(hT:TRel T t)(h:rd (cg x) T k):k (eval t x):=by
 cases x with
 | tmp i =>
   simp only[cg]at h
   split at h
   ·rename_i hi
    have h2:i<256:=by simpa [Nat.blt_eq] using hi
    rw[aGs]at h
    have h3:=(aBW _ _ _).1 ((TC _ T (fun u=>aDI _ u k)).1 h)
    have:=hT i h2
    unfold TT.get at this
    simp only[eval]
    rw[<- this]
    exact h3
   ·exact h.elim
 | const v=>exact h
 | func f=>exact h
 | global g=>exact h.elim
theorem aCi {i:Nat}{v:Value}{T:TT}{t:aE}{k:TT->Prop}(hi:i<256)(hT:TRel T t)(h:wr (cw i) v T k):TRel (T.set i v) (xV t i v)/\k (T.set i v):=by
 refine⟨fun j hj => ?_,?_⟩
 ·rw[TT.get_set _ _ _ _ hi hj]
  unfold xV
  split
  ·rfl
  ·exact hT j hj
 ·rw[aHb]at h
  exact(aCG _ _ _ _).1 ((aB6 _ v _ (fun u=>aBG _ u T k)).1 ((TC _ T (fun u=>aD8 _ v u fun u=>aBG _ u T k)).1 h))
end Go.Mach.J
