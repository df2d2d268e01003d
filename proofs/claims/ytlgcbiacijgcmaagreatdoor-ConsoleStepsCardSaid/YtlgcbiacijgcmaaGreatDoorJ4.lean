/- Arithmetic of the machine for concrete runs, held against the first machine's. No condition. -/
import Derived.Test.YtlgcbiacijgcmaaGreatDoorJ3
namespace Go.Mach.J
open Go Go.Mach

def kn : IntKind → Nat
  | .i8 => 0 | .i16 => 1 | .i32 => 2 | .i64 => 3 | .u8 => 4 | .u16 => 5 | .u32 => 6 | .u64 => 7
theorem kn_inj {i j : IntKind} (h : kn i = kn j) : i = j := by cases i <;> cases j <;> first | rfl | cases h
def full : IntKind → Nat
  | .i8 | .u8 => nat_lit 256
  | .i16 | .u16 => nat_lit 65536
  | .i32 | .u32 => nat_lit 4294967296
  | .i64 | .u64 => nat_lit 18446744073709551616
theorem full_eq (i : IntKind) : full i = 2 ^ i.bits := by cases i <;> rfl
theorem full_pos (i : IntKind) : 0 < full i := by cases i <;> decide

def sameK (i j : IntKind) (p e : Prop) : Prop := ifB (Nat.beq (kn i) (kn j)) p e
theorem sameK_out {i j : IntKind} {p e : Prop} (h : sameK i j p e) : (i = j ∧ p) ∨ e := by
  rcases ifB_iff.1 h with ⟨h1, h2⟩ | ⟨_, h2⟩
  · exact .inl ⟨kn_inj (by simpa using h1), h2⟩
  · exact .inr h2
def onNN (x y : Int) (f : Nat → Nat → Prop) (e : Prop) : Prop :=
  Int.rec (motive := fun _ => Prop) (fun a => Int.rec (motive := fun _ => Prop) (fun b => f a b) (fun _ => e) y) (fun _ => e) x
theorem onNN_out {x y : Int} {f : Nat → Nat → Prop} {e : Prop} (h : onNN x y f e) : (∃ a b : Nat, x = .ofNat a ∧ y = .ofNat b ∧ f a b) ∨ e := by
  cases x with
  | ofNat a => cases y with
    | ofNat b => exact .inl ⟨a, b, rfl, rfl, h⟩
    | negSucc b => exact .inr h
  | negSucc a => exact .inr h
def wS (half : Nat) (n : Int) (k : Int → Prop) (e : Prop) : Prop :=
  Int.rec (motive := fun _ => Prop) (fun a => ifB (Nat.blt a half) (forceN a fun a => k (.ofNat a)) e) (fun a => ifB (Nat.blt a half) (forceN a fun a => k (.negSucc a)) e) n
def wU (m : Nat) (n : Int) (k : Int → Prop) (e : Prop) : Prop :=
  Int.rec (motive := fun _ => Prop) (fun a => forceN (Nat.mod a m) fun a => k (.ofNat a)) (fun _ => e) n
def slowW (i : IntKind) (n : Int) (k : Int → Prop) : Prop := forceI (i.wrap n) k
def w_i8 (n : Int) (k : Int → Prop) : Prop := wS (nat_lit 128) n k (slowW .i8 n k)
def w_i16 (n : Int) (k : Int → Prop) : Prop := wS (nat_lit 32768) n k (slowW .i16 n k)
def w_i32 (n : Int) (k : Int → Prop) : Prop := wS (nat_lit 2147483648) n k (slowW .i32 n k)
def w_i64 (n : Int) (k : Int → Prop) : Prop := wS (nat_lit 9223372036854775808) n k (slowW .i64 n k)
def w_u8 (n : Int) (k : Int → Prop) : Prop := wU (nat_lit 256) n k (slowW .u8 n k)
def w_u16 (n : Int) (k : Int → Prop) : Prop := wU (nat_lit 65536) n k (slowW .u16 n k)
def w_u32 (n : Int) (k : Int → Prop) : Prop := wU (nat_lit 4294967296) n k (slowW .u32 n k)
def w_u64 (n : Int) (k : Int → Prop) : Prop := wU (nat_lit 18446744073709551616) n k (slowW .u64 n k)
def wrapK (i : IntKind) : Int → (Int → Prop) → Prop := IntKind.rec (motive := fun _ => Int → (Int → Prop) → Prop) w_i8 w_i16 w_i32 w_i64 w_u8 w_u16 w_u32 w_u64 i

theorem wS_out {i : IntKind} {half : Nat} {n : Int} {k : Int → Prop} (hs : i.signed = true) (h2 : (2 : Int) ^ (i.bits - 1) = half) (h3 : (2 : Int) ^ i.bits = 2 * half) (h : wS half n k (slowW i n k)) : k (i.wrap n) := by
  have small : ∀ m : Int, -(half : Int) ≤ m → m < half → i.wrap m = m := by
    intro m h4 h5
    unfold IntKind.wrap
    simp only [hs, h2, h3, Bool.true_and, decide_eq_true_eq]
    by_cases hm : 0 ≤ m
    · rw [Int.emod_eq_of_lt hm (by omega), if_neg (by omega)]
    · have : m % (2 * (half : Int)) = m + 2 * half := by
        rw [← Int.add_emod_right, Int.emod_eq_of_lt (by omega) (by omega)]
      rw [this, if_pos (by omega)]
      omega
  cases n with
  | ofNat a =>
    rcases ifB_iff.1 h with ⟨h1, h4⟩ | ⟨_, h4⟩
    · have h1 : a < half := by simpa [Nat.blt_eq] using h1
      rw [small _ (by simp only [Int.ofNat_eq_natCast]; omega) (by simp only [Int.ofNat_eq_natCast]; omega)]
      exact (forceN_iff (k := fun a => k (.ofNat a))).1 h4
    · exact forceI_iff.1 h4
  | negSucc a =>
    rcases ifB_iff.1 h with ⟨h1, h4⟩ | ⟨_, h4⟩
    · have h1 : a < half := by simpa [Nat.blt_eq] using h1
      rw [small _ (by rw [Int.negSucc_eq]; omega) (by rw [Int.negSucc_eq]; omega)]
      exact (forceN_iff (k := fun a => k (.negSucc a))).1 h4
    · exact forceI_iff.1 h4
theorem wU_out {i : IntKind} {m : Nat} {n : Int} {k : Int → Prop} (hs : i.signed = false) (h2 : (2 : Int) ^ i.bits = m) (h : wU m n k (slowW i n k)) : k (i.wrap n) := by
  cases n with
  | ofNat a =>
    have h4 := (forceN_iff (k := fun a => k (.ofNat a))).1 h
    have : i.wrap (Int.ofNat a) = Int.ofNat (Nat.mod a m) := by
      unfold IntKind.wrap
      simp only [hs, h2, Bool.false_and, Bool.false_eq_true, if_false]
      rfl
    rw [this]
    exact h4
  | negSucc a => exact forceI_iff.1 h
theorem wrapK_out {i : IntKind} {n : Int} {k : Int → Prop} (h : wrapK i n k) : k (i.wrap n) := by
  cases i
  · exact wS_out rfl (by decide) (by decide) h
  · exact wS_out rfl (by decide) (by decide) h
  · exact wS_out rfl (by decide) (by decide) h
  · exact wS_out rfl (by decide) (by decide) h
  · exact wU_out rfl (by decide) h
  · exact wU_out rfl (by decide) h
  · exact wU_out rfl (by decide) h
  · exact wU_out rfl (by decide) h

/-- A binary operation on whole numbers: x of kind i, y of kind j; what follows; what is tried else. -/
abbrev AR := IntKind → Int → IntKind → Int → (Value → Prop) → Prop → Prop
def ARS (op : BinOp) (f : AR) : Prop := ∀ i x j y k e, f i x j y k e → (∃ v, aBin op (.int i x) (.int j y) = some v ∧ k v) ∨ e

def kAdd : AR := fun i x j y k e => sameK i j (wrapK i (Int.add x y) fun n => k (.int i n)) e
def kSub : AR := fun i x j y k e => sameK i j (wrapK i (Int.sub x y) fun n => k (.int i n)) e
def kMul : AR := fun i x j y k e => sameK i j (wrapK i (Int.mul x y) fun n => k (.int i n)) e
def kAnd : AR := fun i x j y k e => sameK i j (onNN x y (fun a b => wrapK i (.ofNat (Nat.land (Nat.mod a (full i)) (Nat.mod b (full i)))) fun n => k (.int i n)) e) e
def kOr : AR := fun i x j y k e => sameK i j (onNN x y (fun a b => wrapK i (.ofNat (Nat.lor (Nat.mod a (full i)) (Nat.mod b (full i)))) fun n => k (.int i n)) e) e
def kXor : AR := fun i x j y k e => sameK i j (onNN x y (fun a b => wrapK i (.ofNat (Nat.xor (Nat.mod a (full i)) (Nat.mod b (full i)))) fun n => k (.int i n)) e) e
def kShl : AR := fun i x _ y k e => onNN x y (fun a b => ifB (Nat.ble b i.bits) (wrapK i (.ofNat (Nat.mul a (Nat.pow 2 b))) fun n => k (.int i n)) e) e
def kShr : AR := fun i x _ y k e => onNN x y (fun a b => ifB (Nat.ble b i.bits) (forceN (Nat.div a (Nat.pow 2 b)) fun n => k (.int i (.ofNat n))) e) e
def kEq (x y : Int) (p q : Prop) : Prop :=
  Int.rec (motive := fun _ => Prop) (fun a => Int.rec (motive := fun _ => Prop) (fun b => ifB (Nat.beq a b) p q) (fun _ => q) y) (fun a => Int.rec (motive := fun _ => Prop) (fun _ => q) (fun b => ifB (Nat.beq a b) p q) y) x
def kLt (x y : Int) (p q : Prop) : Prop :=
  Int.rec (motive := fun _ => Prop) (fun a => Int.rec (motive := fun _ => Prop) (fun b => ifB (Nat.blt a b) p q) (fun _ => q) y) (fun a => Int.rec (motive := fun _ => Prop) (fun _ => p) (fun b => ifB (Nat.blt b a) p q) y) x
theorem kEq_out {x y : Int} {p q : Prop} (h : kEq x y p q) : (x = y ∧ p) ∨ (x ≠ y ∧ q) := by
  cases x with
  | ofNat a => cases y with
    | ofNat b =>
      rcases ifB_iff.1 h with ⟨h1, h2⟩ | ⟨h1, h2⟩
      · exact .inl ⟨by rw [Nat.eq_of_beq_eq_true h1], h2⟩
      · exact .inr ⟨fun e => Nat.ne_of_beq_eq_false h1 (Int.ofNat.inj e), h2⟩
    | negSucc b => exact .inr ⟨(fun e => nomatch e), h⟩
  | negSucc a => cases y with
    | ofNat b => exact .inr ⟨(fun e => nomatch e), h⟩
    | negSucc b =>
      rcases ifB_iff.1 h with ⟨h1, h2⟩ | ⟨h1, h2⟩
      · exact .inl ⟨by rw [Nat.eq_of_beq_eq_true h1], h2⟩
      · exact .inr ⟨fun e => Nat.ne_of_beq_eq_false h1 (Int.negSucc.inj e), h2⟩
theorem kLt_out {x y : Int} {p q : Prop} (h : kLt x y p q) : (x < y ∧ p) ∨ (y ≤ x ∧ q) := by
  cases x with
  | ofNat a => cases y with
    | ofNat b =>
      rcases ifB_iff.1 h with ⟨h1, h2⟩ | ⟨h1, h2⟩
      · have h1 : a < b := by simpa [Nat.blt_eq] using h1
        exact .inl ⟨by simp only [Int.ofNat_eq_natCast]; omega, h2⟩
      · have h1 : ¬ a < b := by simpa [← Bool.not_eq_true, Nat.blt_eq] using h1
        exact .inr ⟨by simp only [Int.ofNat_eq_natCast]; omega, h2⟩
    | negSucc b => exact .inr ⟨by simp only [Int.ofNat_eq_natCast, Int.negSucc_eq]; omega, h⟩
  | negSucc a => cases y with
    | ofNat b => exact .inl ⟨by simp only [Int.ofNat_eq_natCast, Int.negSucc_eq]; omega, h⟩
    | negSucc b =>
      rcases ifB_iff.1 h with ⟨h1, h2⟩ | ⟨h1, h2⟩
      · have h1 : b < a := by simpa [Nat.blt_eq] using h1
        exact .inl ⟨by simp only [Int.negSucc_eq]; omega, h2⟩
      · have h1 : ¬ b < a := by simpa [← Bool.not_eq_true, Nat.blt_eq] using h1
        exact .inr ⟨by simp only [Int.negSucc_eq]; omega, h2⟩
def yes (k : Value → Prop) : Prop := k (.bool true)
def no (k : Value → Prop) : Prop := k (.bool false)
def kEql : AR := fun i x j y k e => sameK i j (kEq x y (yes k) (no k)) e
def kNeq : AR := fun i x j y k e => sameK i j (kEq x y (no k) (yes k)) e
def kLss : AR := fun i x j y k e => sameK i j (kLt x y (yes k) (no k)) e
def kLeq : AR := fun i x j y k e => sameK i j (kLt y x (no k) (yes k)) e
def kGtr : AR := fun i x j y k e => sameK i j (kLt y x (yes k) (no k)) e
def kGeq : AR := fun i x j y k e => sameK i j (kLt x y (no k) (yes k)) e
def kRem : AR := fun i x j y k e => sameK i j (onNN x y (fun a b => Nat.rec (motive := fun _ => Prop) e (fun _ _ => forceN (Nat.mod a b) fun n => k (.int i (.ofNat n))) b) e) e
def kQuo : AR := fun i x j y k e => sameK i j (onNN x y (fun a b => Nat.rec (motive := fun _ => Prop) e (fun _ _ => wrapK i (.ofNat (Nat.div a b)) fun n => k (.int i n)) b) e) e
def kElse : AR := fun _ _ _ _ _ e => e
def arK (op : BinOp) : AR := BinOp.rec (motive := fun _ => AR) kAdd kSub kMul kQuo kRem kAnd kOr kXor kShl kShr kElse kEql kNeq kLss kLeq kGtr kGeq op

theorem bits_and {i : IntKind} {a b : Nat} : (BitVec.ofInt i.bits (Int.ofNat a) &&& BitVec.ofInt i.bits (Int.ofNat b)).toNat = Nat.land (Nat.mod a (full i)) (Nat.mod b (full i)) := by
  rw [full_eq, BitVec.toNat_and]
  rfl
theorem bits_or {i : IntKind} {a b : Nat} : (BitVec.ofInt i.bits (Int.ofNat a) ||| BitVec.ofInt i.bits (Int.ofNat b)).toNat = Nat.lor (Nat.mod a (full i)) (Nat.mod b (full i)) := by
  rw [full_eq, BitVec.toNat_or]
  rfl
theorem bits_xor {i : IntKind} {a b : Nat} : (BitVec.ofInt i.bits (Int.ofNat a) ^^^ BitVec.ofInt i.bits (Int.ofNat b)).toNat = Nat.xor (Nat.mod a (full i)) (Nat.mod b (full i)) := by
  rw [full_eq, BitVec.toNat_xor]
  rfl

theorem arK_ok (op : BinOp) : ARS op (arK op) := by
  intro i x j y k e h
  have cmp : ∀ {f : Prop} {b : Bool}, sameK i j f e → (f → k (.bool b)) → (i = j → aBin op (.int i x) (.int j y) = some (.bool b)) → (∃ v, aBin op (.int i x) (.int j y) = some v ∧ k v) ∨ e := by
    intro f b h1 h2 h3
    rcases sameK_out h1 with ⟨h4, h5⟩ | h5
    · exact .inl ⟨_, h3 h4, h2 h5⟩
    · exact .inr h5
  cases op with
  | add =>
    rcases sameK_out h with ⟨rfl, h2⟩ | h2
    · exact .inl ⟨_, by simp only [aBin, ne_eq, not_true_eq_false, if_false]; rfl, wrapK_out (k := fun n => k (.int i n)) h2⟩
    · exact .inr h2
  | sub =>
    rcases sameK_out h with ⟨rfl, h2⟩ | h2
    · exact .inl ⟨_, by simp only [aBin, ne_eq, not_true_eq_false, if_false]; rfl, wrapK_out (k := fun n => k (.int i n)) h2⟩
    · exact .inr h2
  | mul =>
    rcases sameK_out h with ⟨rfl, h2⟩ | h2
    · exact .inl ⟨_, by simp only [aBin, ne_eq, not_true_eq_false, if_false]; rfl, wrapK_out (k := fun n => k (.int i n)) h2⟩
    · exact .inr h2
  | quo =>
    rcases sameK_out h with ⟨rfl, h2⟩ | h2
    · rcases onNN_out h2 with ⟨a, b, rfl, rfl, h3⟩ | h3
      · cases b with
        | zero => exact .inr h3
        | succ b =>
          refine .inl ⟨_, ?_, wrapK_out (k := fun n => k (.int i n)) h3⟩
          simp only [aBin, ne_eq, not_true_eq_false, if_false]
          rw [if_neg (by intro h; cases h)]
          rfl
      · exact .inr h3
    · exact .inr h2
  | rem =>
    rcases sameK_out h with ⟨rfl, h2⟩ | h2
    · rcases onNN_out h2 with ⟨a, b, rfl, rfl, h3⟩ | h3
      · cases b with
        | zero => exact .inr h3
        | succ b =>
          refine .inl ⟨_, ?_, (forceN_iff (k := fun n => k (.int i (.ofNat n)))).1 h3⟩
          simp only [aBin, ne_eq, not_true_eq_false, if_false]
          rw [if_neg (by intro h; cases h)]
          rfl
      · exact .inr h3
    · exact .inr h2
  | and =>
    rcases sameK_out h with ⟨rfl, h2⟩ | h2
    · rcases onNN_out h2 with ⟨a, b, rfl, rfl, h3⟩ | h3
      · refine .inl ⟨_, ?_, wrapK_out (k := fun n => k (.int i n)) h3⟩
        simp only [aBin, ne_eq, not_true_eq_false, if_false]
        rw [bits_and]
        rfl
      · exact .inr h3
    · exact .inr h2
  | or =>
    rcases sameK_out h with ⟨rfl, h2⟩ | h2
    · rcases onNN_out h2 with ⟨a, b, rfl, rfl, h3⟩ | h3
      · refine .inl ⟨_, ?_, wrapK_out (k := fun n => k (.int i n)) h3⟩
        simp only [aBin, ne_eq, not_true_eq_false, if_false]
        rw [bits_or]
        rfl
      · exact .inr h3
    · exact .inr h2
  | xor =>
    rcases sameK_out h with ⟨rfl, h2⟩ | h2
    · rcases onNN_out h2 with ⟨a, b, rfl, rfl, h3⟩ | h3
      · refine .inl ⟨_, ?_, wrapK_out (k := fun n => k (.int i n)) h3⟩
        simp only [aBin, ne_eq, not_true_eq_false, if_false]
        rw [bits_xor]
        rfl
      · exact .inr h3
    · exact .inr h2
  | shl =>
    rcases onNN_out h with ⟨a, b, rfl, rfl, h3⟩ | h3
    · rcases ifB_iff.1 h3 with ⟨h4, h5⟩ | ⟨_, h5⟩
      · refine .inl ⟨_, ?_, wrapK_out (k := fun n => k (.int i n)) h5⟩
        have h4 : b ≤ i.bits := by simpa [Nat.ble_eq] using h4
        simp only [aBin]
        rw [if_neg (by simp only [Int.ofNat_eq_natCast]; omega)]
        have : min (Int.toNat (Int.ofNat b)) i.bits = b := Nat.min_eq_left h4
        rw [this]
        have h6 : Int.ofNat (Nat.mul a (Nat.pow 2 b)) = Int.ofNat a * 2 ^ b := by
          show ((a * 2 ^ b : Nat) : Int) = (a : Int) * 2 ^ b
          rw [Int.natCast_mul, Int.natCast_pow]
          rfl
        rw [h6]
      · exact .inr h5
    · exact .inr h3
  | shr =>
    rcases onNN_out h with ⟨a, b, rfl, rfl, h3⟩ | h3
    · rcases ifB_iff.1 h3 with ⟨h4, h5⟩ | ⟨_, h5⟩
      · refine .inl ⟨_, ?_, (forceN_iff (k := fun n => k (.int i (.ofNat n)))).1 h5⟩
        have h4 : b ≤ i.bits := by simpa [Nat.ble_eq] using h4
        simp only [aBin]
        rw [if_neg (by simp only [Int.ofNat_eq_natCast]; omega)]
        have : min (Int.toNat (Int.ofNat b)) i.bits = b := Nat.min_eq_left h4
        rw [this]
        have h6 : Int.ofNat (Nat.div a (Nat.pow 2 b)) = (Int.ofNat a).fdiv (2 ^ b) := by
          have : (2 : Int) ^ b = Int.ofNat (2 ^ b) := by rw [Int.ofNat_eq_natCast, Int.natCast_pow]; rfl
          rw [this]
          cases a with
          | zero =>
            show Int.ofNat (0 / 2 ^ b) = Int.fdiv 0 _
            rw [Int.zero_fdiv, Nat.zero_div]
            rfl
          | succ a => rfl
        rw [h6]
      · exact .inr h5
    · exact .inr h3
  | andNot => exact .inr h
  | eql =>
    rcases sameK_out h with ⟨rfl, h2⟩ | h2
    · rcases kEq_out h2 with ⟨h3, h4⟩ | ⟨h3, h4⟩
      · exact .inl ⟨_, by simp only [aBin, ne_eq, not_true_eq_false, if_false, h3, beq_self_eq_true], h4⟩
      · exact .inl ⟨_, by simp only [aBin, ne_eq, not_true_eq_false, if_false, beq_eq_false_iff_ne.2 h3], h4⟩
    · exact .inr h2
  | neq =>
    rcases sameK_out h with ⟨rfl, h2⟩ | h2
    · rcases kEq_out h2 with ⟨h3, h4⟩ | ⟨h3, h4⟩
      · exact .inl ⟨_, by simp only [aBin, ne_eq, not_true_eq_false, if_false, h3, bne_self_eq_false], h4⟩
      · exact .inl ⟨_, by simp only [aBin, ne_eq, not_true_eq_false, if_false, bne_iff_ne.2 h3], h4⟩
    · exact .inr h2
  | lss =>
    rcases sameK_out h with ⟨rfl, h2⟩ | h2
    · rcases kLt_out h2 with ⟨h3, h4⟩ | ⟨h3, h4⟩
      · exact .inl ⟨_, by simp only [aBin, ne_eq, not_true_eq_false, if_false, decide_eq_true h3], h4⟩
      · exact .inl ⟨_, by simp only [aBin, ne_eq, not_true_eq_false, if_false, decide_eq_false (Int.not_lt.2 h3)], h4⟩
    · exact .inr h2
  | leq =>
    rcases sameK_out h with ⟨rfl, h2⟩ | h2
    · rcases kLt_out h2 with ⟨h3, h4⟩ | ⟨h3, h4⟩
      · exact .inl ⟨_, by simp only [aBin, ne_eq, not_true_eq_false, if_false, decide_eq_false (Int.not_le.2 h3)], h4⟩
      · exact .inl ⟨_, by simp only [aBin, ne_eq, not_true_eq_false, if_false, decide_eq_true h3], h4⟩
    · exact .inr h2
  | gtr =>
    rcases sameK_out h with ⟨rfl, h2⟩ | h2
    · rcases kLt_out h2 with ⟨h3, h4⟩ | ⟨h3, h4⟩
      · exact .inl ⟨_, by simp only [aBin, ne_eq, not_true_eq_false, if_false, decide_eq_true h3], h4⟩
      · exact .inl ⟨_, by simp only [aBin, ne_eq, not_true_eq_false, if_false, decide_eq_false (Int.not_lt.2 h3)], h4⟩
    · exact .inr h2
  | geq =>
    rcases sameK_out h with ⟨rfl, h2⟩ | h2
    · rcases kLt_out h2 with ⟨h3, h4⟩ | ⟨h3, h4⟩
      · exact .inl ⟨_, by simp only [aBin, ne_eq, not_true_eq_false, if_false, decide_eq_false (Int.not_le.2 h3)], h4⟩
      · exact .inl ⟨_, by simp only [aBin, ne_eq, not_true_eq_false, if_false, decide_eq_true h3], h4⟩
    · exact .inr h2
end Go.Mach.J
