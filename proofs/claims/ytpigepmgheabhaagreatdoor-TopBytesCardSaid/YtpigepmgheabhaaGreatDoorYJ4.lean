/- Part of the proof. No condition. -/
import Derived.Test.YtpigepmgheabhaaGreatDoorYJ3
namespace Go.Mach.J
open Go Go.Mach
def kn:IntKind->Nat
 | .i8=>0 | .i16=>1 | .i32=>2 | .i64=>3 | .u8=>4 | .u16=>5 | .u32=>6 | .u64=>7
theorem aCt {i j:IntKind}(h:kn i=kn j):i=j:=by cases i <;> cases j <;> first|rfl|cases h
def full:IntKind->Nat
 | .i8 | .u8=>nat_lit 256
 | .i16 | .u16=>nat_lit 65536
 | .i32 | .u32=>nat_lit 4294967296
 | .i64 | .u64=>nat_lit 18446744073709551616
theorem O8 (i:IntKind):full i=2 ^ i.bits:=by cases i <;> rfl
def nS (i j:IntKind)(p e:Prop):Prop:=ifB (Nat.beq (kn i) (kn j)) p e
theorem dS {i j:IntKind}{p e:Prop}(h:nS i j p e):(i=j/\p)\/e:=by
 rcases cO.1 h with⟨h1,h2⟩|⟨_,h2⟩
 ·exact .inl ⟨aCt (by simpa using h1),h2⟩
 ·exact .inr h2
def QO (x y:Int)(f:Nat->Nat->Prop)(e:Prop):Prop :=
 Int.rec (motive:=fun _=>Prop) (fun a=>Int.rec (motive:=fun _=>Prop) (fun b=>f a b) (fun _=>e) y) (fun _=>e) x
theorem oY {x y:Int}{f:Nat->Nat->Prop}{e:Prop}(h:QO x y f e):(∃ a b:Nat,x = .ofNat a/\y = .ofNat b/\f a b)\/e:=by
 cases x with
 | ofNat a=>cases y with
   | ofNat b=>exact .inl ⟨a,b,rfl,rfl,h⟩
   | negSucc b=>exact .inr h
 | negSucc a=>exact .inr h
def wS (half:Nat)(n:Int)(k:Int->Prop)(e:Prop):Prop :=
 Int.rec (motive:=fun _=>Prop) (fun a=>ifB (Nat.blt a half) (cG a fun a=>k (.ofNat a)) e) (fun a=>ifB (Nat.blt a half) (cG a fun a=>k (.negSucc a)) e) n
def wU (m:Nat)(n:Int)(k:Int->Prop)(e:Prop):Prop :=
 Int.rec (motive:=fun _=>Prop) (fun a=>cG (Nat.mod a m) fun a=>k (.ofNat a)) (fun _=>e) n
def zV (i:IntKind)(n:Int)(k:Int->Prop):Prop:=HW (i.wrap n) k
def aIZ (n:Int)(k:Int->Prop):Prop:=wS (nat_lit 128) n k (zV .i8 n k)
def aHl (n:Int)(k:Int->Prop):Prop:=wS (nat_lit 32768) n k (zV .i16 n k)
def aHk (n:Int)(k:Int->Prop):Prop:=wS (nat_lit 2147483648) n k (zV .i32 n k)
def aG4 (n:Int)(k:Int->Prop):Prop:=wS (nat_lit 9223372036854775808) n k (zV .i64 n k)
def aIS (n:Int)(k:Int->Prop):Prop:=wU (nat_lit 256) n k (zV .u8 n k)
def aHf (n:Int)(k:Int->Prop):Prop:=wU (nat_lit 65536) n k (zV .u16 n k)
def aG3 (n:Int)(k:Int->Prop):Prop:=wU (nat_lit 4294967296) n k (zV .u32 n k)
def aGh (n:Int)(k:Int->Prop):Prop:=wU (nat_lit 18446744073709551616) n k (zV .u64 n k)
def wL (i:IntKind):Int->(Int->Prop)->Prop:=IntKind.rec (motive:=fun _=>Int->(Int->Prop)->Prop) aIZ aHl aHk aG4 aIS aHf aG3 aGh i
theorem PW {i:IntKind}{half:Nat}{n:Int}{k:Int->Prop}(hs:i.signed=true)(h2:(2:Int) ^ (i.bits-1)=half)(h3:(2:Int) ^ i.bits=2*half)(h:wS half n k (zV i n k)):k (i.wrap n):=by
 have small:∀ m:Int,-(half:Int)<=m->m<half->i.wrap m=m:=by
  intro m h4 h5
  unfold IntKind.wrap
  simp only[hs,h2,h3,lP,cK]
  by_cases hm:0<=m
  ·rw[Int.emod_eq_of_lt hm (by omega),aC (by omega)]
  ·have:m%(2*(half:Int))=m+2*half:=by
    rw[<- Int.add_emod_right,Int.emod_eq_of_lt (by omega) (by omega)]
   rw[this,aA (by omega)]
   omega
 cases n with
 | ofNat a =>
   rcases cO.1 h with⟨h1,h4⟩|⟨_,h4⟩
   ·have h1:a<half:=by simpa [Nat.blt_eq] using h1
    rw[small _ (by simp only[Int.ofNat_eq_natCast];omega) (by simp only[Int.ofNat_eq_natCast];omega)]
    exact(aZ (k:=fun a=>k (.ofNat a))).1 h4
   ·exact rC.1 h4
 | negSucc a =>
   rcases cO.1 h with⟨h1,h4⟩|⟨_,h4⟩
   ·have h1:a<half:=by simpa [Nat.blt_eq] using h1
    rw[small _ (by rw[Int.negSucc_eq];omega) (by rw[Int.negSucc_eq];omega)]
    exact(aZ (k:=fun a=>k (.negSucc a))).1 h4
   ·exact rC.1 h4
theorem QN {i:IntKind}{m:Nat}{n:Int}{k:Int->Prop}(hs:i.signed=false)(h2:(2:Int) ^ i.bits=m)(h:wU m n k (zV i n k)):k (i.wrap n):=by
 cases n with
 | ofNat a =>
   have h4:=(aZ (k:=fun a=>k (.ofNat a))).1 h
   have:i.wrap (Int.ofNat a)=Int.ofNat (Nat.mod a m):=by
    unfold IntKind.wrap
    simp only[hs,h2,Bool.false_and,eK,aS]
    rfl
   rw[this]
   exact h4
 | negSucc a=>exact rC.1 h
theorem j7 {i:IntKind}{n:Int}{k:Int->Prop}(h:wL i n k):k (i.wrap n):=by
 cases i
 ·exact PW rfl (by decide) (by decide) h
 ·exact PW rfl (by decide) (by decide) h
 ·exact PW rfl (by decide) (by decide) h
 ·exact PW rfl (by decide) (by decide) h
 ·exact QN rfl (by decide) h
 ·exact QN rfl (by decide) h
 ·exact QN rfl (by decide) h
 ·exact QN rfl (by decide) h
abbrev AR:=IntKind->Int->IntKind->Int->(Value->Prop)->Prop->Prop
def ARS (op:BinOp)(f:AR):Prop:=∀ i x j y k e,f i x j y k e->(∃ v,fI op (.int i x) (.int j y)=some v/\k v)\/e
def aIQ:AR:=fun i x j y k e=>nS i j (wL i (Int.add x y) fun n=>k (.int i n)) e
def aII:AR:=fun i x j y k e=>nS i j (wL i (Int.sub x y) fun n=>k (.int i n)) e
def aIK:AR:=fun i x j y k e=>nS i j (wL i (Int.mul x y) fun n=>k (.int i n)) e
def aIR:AR:=fun i x j y k e=>nS i j (QO x y (fun a b=>wL i (.ofNat (Nat.land (Nat.mod a (full i)) (Nat.mod b (full i)))) fun n=>k (.int i n)) e) e
def kOr:AR:=fun i x j y k e=>nS i j (QO x y (fun a b=>wL i (.ofNat (Nat.lor (Nat.mod a (full i)) (Nat.mod b (full i)))) fun n=>k (.int i n)) e) e
def aIG:AR:=fun i x j y k e=>nS i j (QO x y (fun a b=>wL i (.ofNat (Nat.xor (Nat.mod a (full i)) (Nat.mod b (full i)))) fun n=>k (.int i n)) e) e
def aIf:AR:=fun i x _ y k e=>QO x y (fun a b=>ifB (Nat.ble b i.bits) (wL i (.ofNat (Nat.mul a (Nat.pow 2 b))) fun n=>k (.int i n)) e) e
def aIc:AR:=fun i x _ y k e=>QO x y (fun a b=>ifB (Nat.ble b i.bits) (cG (Nat.div a (Nat.pow 2 b)) fun n=>k (.int i (.ofNat n))) e) e
def kEq (x y:Int)(p q:Prop):Prop :=
 Int.rec (motive:=fun _=>Prop) (fun a=>Int.rec (motive:=fun _=>Prop) (fun b=>ifB (Nat.beq a b) p q) (fun _=>q) y) (fun a=>Int.rec (motive:=fun _=>Prop) (fun _=>q) (fun b=>ifB (Nat.beq a b) p q) y) x
def kLt (x y:Int)(p q:Prop):Prop :=
 Int.rec (motive:=fun _=>Prop) (fun a=>Int.rec (motive:=fun _=>Prop) (fun b=>ifB (Nat.blt a b) p q) (fun _=>q) y) (fun a=>Int.rec (motive:=fun _=>Prop) (fun _=>p) (fun b=>ifB (Nat.blt b a) p q) y) x
theorem YI {x y:Int}{p q:Prop}(h:kEq x y p q):(x=y/\p)\/(x≠y/\q):=by
 cases x with
 | ofNat a=>cases y with
   | ofNat b =>
     rcases cO.1 h with⟨h1,h2⟩|⟨h1,h2⟩
     ·exact .inl ⟨by rw[Nat.eq_of_beq_eq_true h1],h2⟩
     ·exact .inr ⟨fun e=>Nat.ne_of_beq_eq_false h1 (Int.ofNat.inj e),h2⟩
   | negSucc b=>exact .inr ⟨(fun e=>nomatch e),h⟩
 | negSucc a=>cases y with
   | ofNat b=>exact .inr ⟨(fun e=>nomatch e),h⟩
   | negSucc b =>
     rcases cO.1 h with⟨h1,h2⟩|⟨h1,h2⟩
     ·exact .inl ⟨by rw[Nat.eq_of_beq_eq_true h1],h2⟩
     ·exact .inr ⟨fun e=>Nat.ne_of_beq_eq_false h1 (Int.negSucc.inj e),h2⟩
theorem yO {x y:Int}{p q:Prop}(h:kLt x y p q):(x<y/\p)\/(y<=x/\q):=by
 cases x with
 | ofNat a=>cases y with
   | ofNat b =>
     rcases cO.1 h with⟨h1,h2⟩|⟨h1,h2⟩
     ·have h1:a<b:=by simpa [Nat.blt_eq] using h1
      exact .inl ⟨by simp only[Int.ofNat_eq_natCast];omega,h2⟩
     ·have h1 : ¬ a<b:=by simpa [<- Bool.not_eq_true,Nat.blt_eq] using h1
      exact .inr ⟨by simp only[Int.ofNat_eq_natCast];omega,h2⟩
   | negSucc b=>exact .inr ⟨by simp only[Int.ofNat_eq_natCast,Int.negSucc_eq];omega,h⟩
 | negSucc a=>cases y with
   | ofNat b=>exact .inl ⟨by simp only[Int.ofNat_eq_natCast,Int.negSucc_eq];omega,h⟩
   | negSucc b =>
     rcases cO.1 h with⟨h1,h2⟩|⟨h1,h2⟩
     ·have h1:b<a:=by simpa [Nat.blt_eq] using h1
      exact .inl ⟨by simp only[Int.negSucc_eq];omega,h2⟩
     ·have h1 : ¬ b<a:=by simpa [<- Bool.not_eq_true,Nat.blt_eq] using h1
      exact .inr ⟨by simp only[Int.negSucc_eq];omega,h2⟩
def yes (k:Value->Prop):Prop:=k (.bool true)
def no (k:Value->Prop):Prop:=k (.bool false)
def aI0:AR:=fun i x j y k e=>nS i j (kEq x y (yes k) (no k)) e
def aIH:AR:=fun i x j y k e=>nS i j (kEq x y (no k) (yes k)) e
def aI6:AR:=fun i x j y k e=>nS i j (kLt x y (yes k) (no k)) e
def aI4:AR:=fun i x j y k e=>nS i j (kLt y x (no k) (yes k)) e
def aIa:AR:=fun i x j y k e=>nS i j (kLt y x (yes k) (no k)) e
def aIb:AR:=fun i x j y k e=>nS i j (kLt x y (no k) (yes k)) e
def aI3:AR:=fun i x j y k e=>nS i j (QO x y (fun a b=>Nat.rec (motive:=fun _=>Prop) e (fun _ _=>cG (Nat.mod a b) fun n=>k (.int i (.ofNat n))) b) e) e
def aIL:AR:=fun i x j y k e=>nS i j (QO x y (fun a b=>Nat.rec (motive:=fun _=>Prop) e (fun _ _=>wL i (.ofNat (Nat.div a b)) fun n=>k (.int i n)) b) e) e
def aH2:AR:=fun _ _ _ _ _ e=>e
def arK (op:BinOp):AR:=BinOp.rec (motive:=fun _=>AR) aIQ aII aIK aIL aI3 aIR kOr aIG aIf aIc aH2 aI0 aIH aI6 aI4 aIa aIb op
theorem aAu {i:IntKind}{a b:Nat}:(BitVec.ofInt i.bits (Int.ofNat a) &&& BitVec.ofInt i.bits (Int.ofNat b)).toNat=Nat.land (Nat.mod a (full i)) (Nat.mod b (full i)):=by
 rw[O8,BitVec.toNat_and]
 rfl
theorem aEK {i:IntKind}{a b:Nat}:(BitVec.ofInt i.bits (Int.ofNat a) ||| BitVec.ofInt i.bits (Int.ofNat b)).toNat=Nat.lor (Nat.mod a (full i)) (Nat.mod b (full i)):=by
 rw[O8,BitVec.toNat_or]
 rfl
theorem aBJ {i:IntKind}{a b:Nat}:(BitVec.ofInt i.bits (Int.ofNat a) ^^^ BitVec.ofInt i.bits (Int.ofNat b)).toNat=Nat.xor (Nat.mod a (full i)) (Nat.mod b (full i)):=by
 rw[O8,BitVec.toNat_xor]
 rfl
theorem aGS (op:BinOp):ARS op (arK op):=by
 intro i x j y k e h
 have cmp:∀ {f:Prop} {b:Bool},nS i j f e->(f->k (.bool b))->(i=j->fI op (.int i x) (.int j y)=some (.bool b))->(∃ v,fI op (.int i x) (.int j y)=some v/\k v)\/e:=by
  intro f b h1 h2 h3
  rcases dS h1 with⟨h4,h5⟩|h5
  ·exact .inl ⟨_,h3 h4,h2 h5⟩
  ·exact .inr h5
 cases op with
 | add =>
   rcases dS h with⟨rfl,h2⟩|h2
   ·exact .inl ⟨_,by simp only[fI,ne_eq,not_true_eq_false,aS];rfl,j7 (k:=fun n=>k (.int i n)) h2⟩
   ·exact .inr h2
 | sub =>
   rcases dS h with⟨rfl,h2⟩|h2
   ·exact .inl ⟨_,by simp only[fI,ne_eq,not_true_eq_false,aS];rfl,j7 (k:=fun n=>k (.int i n)) h2⟩
   ·exact .inr h2
 | mul =>
   rcases dS h with⟨rfl,h2⟩|h2
   ·exact .inl ⟨_,by simp only[fI,ne_eq,not_true_eq_false,aS];rfl,j7 (k:=fun n=>k (.int i n)) h2⟩
   ·exact .inr h2
 | quo =>
   rcases dS h with⟨rfl,h2⟩|h2
   ·rcases oY h2 with⟨a,b,rfl,rfl,h3⟩|h3
    ·cases b with
     | zero=>exact .inr h3
     | succ b =>
       refine .inl ⟨_,?_,j7 (k:=fun n=>k (.int i n)) h3⟩
       simp only[fI,ne_eq,not_true_eq_false,aS]
       rw[aC (by intro h;cases h)]
       rfl
    ·exact .inr h3
   ·exact .inr h2
 | rem =>
   rcases dS h with⟨rfl,h2⟩|h2
   ·rcases oY h2 with⟨a,b,rfl,rfl,h3⟩|h3
    ·cases b with
     | zero=>exact .inr h3
     | succ b =>
       refine .inl ⟨_,?_,(aZ (k:=fun n=>k (.int i (.ofNat n)))).1 h3⟩
       simp only[fI,ne_eq,not_true_eq_false,aS]
       rw[aC (by intro h;cases h)]
       rfl
    ·exact .inr h3
   ·exact .inr h2
 | and =>
   rcases dS h with⟨rfl,h2⟩|h2
   ·rcases oY h2 with⟨a,b,rfl,rfl,h3⟩|h3
    ·refine .inl ⟨_,?_,j7 (k:=fun n=>k (.int i n)) h3⟩
     simp only[fI,ne_eq,not_true_eq_false,aS]
     rw[aAu]
     rfl
    ·exact .inr h3
   ·exact .inr h2
 | or =>
   rcases dS h with⟨rfl,h2⟩|h2
   ·rcases oY h2 with⟨a,b,rfl,rfl,h3⟩|h3
    ·refine .inl ⟨_,?_,j7 (k:=fun n=>k (.int i n)) h3⟩
     simp only[fI,ne_eq,not_true_eq_false,aS]
     rw[aEK]
     rfl
    ·exact .inr h3
   ·exact .inr h2
 | xor =>
   rcases dS h with⟨rfl,h2⟩|h2
   ·rcases oY h2 with⟨a,b,rfl,rfl,h3⟩|h3
    ·refine .inl ⟨_,?_,j7 (k:=fun n=>k (.int i n)) h3⟩
     simp only[fI,ne_eq,not_true_eq_false,aS]
     rw[aBJ]
     rfl
    ·exact .inr h3
   ·exact .inr h2
 | shl =>
   rcases oY h with⟨a,b,rfl,rfl,h3⟩|h3
   ·rcases cO.1 h3 with⟨h4,h5⟩|⟨_,h5⟩
    ·refine .inl ⟨_,?_,j7 (k:=fun n=>k (.int i n)) h5⟩
     have h4:b<=i.bits:=by simpa [Nat.ble_eq] using h4
     simp only[fI]
     rw[aC (by simp only[Int.ofNat_eq_natCast];omega)]
     have:min (Int.toNat (Int.ofNat b)) i.bits=b:=xG h4
     rw[this]
     have h6:Int.ofNat (Nat.mul a (Nat.pow 2 b))=Int.ofNat a*2 ^ b:=by
      show((a*2 ^ b:Nat):Int)=(a:Int)*2 ^ b
      rw[Int.natCast_mul,Int.natCast_pow]
      rfl
     rw[h6]
    ·exact .inr h5
   ·exact .inr h3
 | shr =>
   rcases oY h with⟨a,b,rfl,rfl,h3⟩|h3
   ·rcases cO.1 h3 with⟨h4,h5⟩|⟨_,h5⟩
    ·refine .inl ⟨_,?_,(aZ (k:=fun n=>k (.int i (.ofNat n)))).1 h5⟩
     have h4:b<=i.bits:=by simpa [Nat.ble_eq] using h4
     simp only[fI]
     rw[aC (by simp only[Int.ofNat_eq_natCast];omega)]
     have:min (Int.toNat (Int.ofNat b)) i.bits=b:=xG h4
     rw[this]
     have h6:Int.ofNat (Nat.div a (Nat.pow 2 b))=(Int.ofNat a).fdiv (2 ^ b):=by
      have:(2:Int) ^ b=Int.ofNat (2 ^ b):=by rw[Int.ofNat_eq_natCast,Int.natCast_pow];rfl
      rw[this]
      cases a with
      | zero =>
        show Int.ofNat (0 / 2 ^ b)=Int.fdiv 0 _
        rw[Int.zero_fdiv,Nat.zero_div]
        rfl
      | succ a=>rfl
     rw[h6]
    ·exact .inr h5
   ·exact .inr h3
 | andNot=>exact .inr h
 | eql =>
   rcases dS h with⟨rfl,h2⟩|h2
   ·rcases YI h2 with⟨h3,h4⟩|⟨h3,h4⟩
    ·exact .inl ⟨_,by simp only[fI,ne_eq,not_true_eq_false,aS,h3,DZ],h4⟩
    ·exact .inl ⟨_,by simp only[fI,ne_eq,not_true_eq_false,aS,beq_eq_false_iff_ne.2 h3],h4⟩
   ·exact .inr h2
 | neq =>
   rcases dS h with⟨rfl,h2⟩|h2
   ·rcases YI h2 with⟨h3,h4⟩|⟨h3,h4⟩
    ·exact .inl ⟨_,by simp only[fI,ne_eq,not_true_eq_false,aS,h3,bne_self_eq_false],h4⟩
    ·exact .inl ⟨_,by simp only[fI,ne_eq,not_true_eq_false,aS,bne_iff_ne.2 h3],h4⟩
   ·exact .inr h2
 | lss =>
   rcases dS h with⟨rfl,h2⟩|h2
   ·rcases yO h2 with⟨h3,h4⟩|⟨h3,h4⟩
    ·exact .inl ⟨_,by simp only[fI,ne_eq,not_true_eq_false,aS,gB h3],h4⟩
    ·exact .inl ⟨_,by simp only[fI,ne_eq,not_true_eq_false,aS,DO (Int.not_lt.2 h3)],h4⟩
   ·exact .inr h2
 | leq =>
   rcases dS h with⟨rfl,h2⟩|h2
   ·rcases yO h2 with⟨h3,h4⟩|⟨h3,h4⟩
    ·exact .inl ⟨_,by simp only[fI,ne_eq,not_true_eq_false,aS,DO (Int.not_le.2 h3)],h4⟩
    ·exact .inl ⟨_,by simp only[fI,ne_eq,not_true_eq_false,aS,gB h3],h4⟩
   ·exact .inr h2
 | gtr =>
   rcases dS h with⟨rfl,h2⟩|h2
   ·rcases yO h2 with⟨h3,h4⟩|⟨h3,h4⟩
    ·exact .inl ⟨_,by simp only[fI,ne_eq,not_true_eq_false,aS,gB h3],h4⟩
    ·exact .inl ⟨_,by simp only[fI,ne_eq,not_true_eq_false,aS,DO (Int.not_lt.2 h3)],h4⟩
   ·exact .inr h2
 | geq =>
   rcases dS h with⟨rfl,h2⟩|h2
   ·rcases yO h2 with⟨h3,h4⟩|⟨h3,h4⟩
    ·exact .inl ⟨_,by simp only[fI,ne_eq,not_true_eq_false,aS,DO (Int.not_le.2 h3)],h4⟩
    ·exact .inl ⟨_,by simp only[fI,ne_eq,not_true_eq_false,aS,gB h3],h4⟩
   ·exact .inr h2
end Go.Mach.J
