/- The values, blocks and cells of the machine for concrete runs. Plain definitions; no condition. -/
import Derived.Test.YtlgcbiacijgcmaaGreatDoorJ1
namespace Go.Mach.J
open Go Go.Mach

def chk (b : Bool) (p : Prop) : Prop := Bool.rec (motive := fun _ => Prop) False p b
def ifB (b : Bool) (p q : Prop) : Prop := Bool.rec (motive := fun _ => Prop) q p b
def forceN (n : Nat) (k : Nat → Prop) : Prop := Nat.rec (motive := fun _ => Prop) (k 0) (fun m _ => k (Nat.succ m)) n
def forceI (n : Int) (k : Int → Prop) : Prop := Int.rec (motive := fun _ => Prop) (fun a => forceN a fun a => k (.ofNat a)) (fun a => forceN a fun a => k (.negSucc a)) n
def forceB (b : Bool) (k : Bool → Prop) : Prop := Bool.rec (motive := fun _ => Prop) (k false) (k true) b
def forceK (i : IntKind) (k : IntKind → Prop) : Prop := IntKind.rec (motive := fun _ => Prop) (k .i8) (k .i16) (k .i32) (k .i64) (k .u8) (k .u16) (k .u32) (k .u64) i
def onOpt {α : Type} (o : Option α) (n : Prop) (k : α → Prop) : Prop := Option.rec (motive := fun _ => Prop) n k o
def forceA (a : Addr) (k : Addr → Prop) : Prop := Addr.rec (motive := fun _ => Prop) (fun b o s => forceN b fun b => forceN o fun o => onOpt s (k ⟨b, o, none⟩) fun s => k ⟨b, o, some s⟩) a
def forceO (a : Option Addr) (k : Option Addr → Prop) : Prop := onOpt a (k none) fun a => forceA a fun a => k (some a)

def forceV (v : Value) (k : Value → Prop) : Prop := Value.rec (motive_1 := fun _ => Prop) (motive_2 := fun _ => Prop) (motive_3 := fun _ => Prop) (fun b => forceB b fun b => k (.bool b)) (fun i n => forceK i fun i => forceI n fun n => k (.int i n)) (fun a b => k (.float a b)) (fun a b c => k (.complex a b c)) (fun s => k (.string s)) (fun a => forceO a fun a => k (.pointer a)) (fun a l c => forceO a fun a => forceN l fun l => forceN c fun c => k (.slice a l c)) (fun r => k (.map r)) (fun r => k (.chan r)) (fun f a b _ _ => k (.func f a b)) (k .nilFunc) (fun t v _ => k (.iface t v)) (k .nilIface) (fun cs _ => k (.agg cs)) (fun vs _ => k (.tuple vs)) (fun _ _ => False) False (fun _ _ _ _ => False) v
def onInt (v : Value) (k : IntKind → Int → Prop) (e : Prop) : Prop := Value.rec (motive_1 := fun _ => Prop) (motive_2 := fun _ => Prop) (motive_3 := fun _ => Prop) (fun _ => e) (fun i n => k i n) (fun _ _ => e) (fun _ _ _ => e) (fun _ => e) (fun _ => e) (fun _ _ _ => e) (fun _ => e) (fun _ => e) (fun _ _ _ _ _ => e) (e) (fun _ _ _ => e) (e) (fun _ _ => e) (fun _ _ => e) (fun _ _ => False) False (fun _ _ _ _ => False) v
def onBool (v : Value) (k : Bool → Prop) : Prop := Value.rec (motive_1 := fun _ => Prop) (motive_2 := fun _ => Prop) (motive_3 := fun _ => Prop) (fun b => k b) (fun _ _ => False) (fun _ _ => False) (fun _ _ _ => False) (fun _ => False) (fun _ => False) (fun _ _ _ => False) (fun _ => False) (fun _ => False) (fun _ _ _ _ _ => False) (False) (fun _ _ _ => False) (False) (fun _ _ => False) (fun _ _ => False) (fun _ _ => False) False (fun _ _ _ _ => False) v
def onPtr (v : Value) (k : Addr → Prop) : Prop := Value.rec (motive_1 := fun _ => Prop) (motive_2 := fun _ => Prop) (motive_3 := fun _ => Prop) (fun _ => False) (fun _ _ => False) (fun _ _ => False) (fun _ _ _ => False) (fun _ => False) (fun a => onOpt a False k) (fun _ _ _ => False) (fun _ => False) (fun _ => False) (fun _ _ _ _ _ => False) (False) (fun _ _ _ => False) (False) (fun _ _ => False) (fun _ _ => False) (fun _ _ => False) False (fun _ _ _ _ => False) v
def onSlice (v : Value) (k : Option Addr → Nat → Nat → Prop) (e : Prop) : Prop := Value.rec (motive_1 := fun _ => Prop) (motive_2 := fun _ => Prop) (motive_3 := fun _ => Prop) (fun _ => e) (fun _ _ => e) (fun _ _ => e) (fun _ _ _ => e) (fun _ => e) (fun _ => e) (fun a l c => k a l c) (fun _ => e) (fun _ => e) (fun _ _ _ _ _ => e) (e) (fun _ _ _ => e) (e) (fun _ _ => e) (fun _ _ => e) (fun _ _ => False) False (fun _ _ _ _ => False) v
def onStr (v : Value) (k : ByteArray → Prop) (e : Prop) : Prop := Value.rec (motive_1 := fun _ => Prop) (motive_2 := fun _ => Prop) (motive_3 := fun _ => Prop) (fun _ => e) (fun _ _ => e) (fun _ _ => e) (fun _ _ _ => e) (fun s => k s) (fun _ => e) (fun _ _ _ => e) (fun _ => e) (fun _ => e) (fun _ _ _ _ _ => e) (e) (fun _ _ _ => e) (e) (fun _ _ => e) (fun _ _ => e) (fun _ _ => False) False (fun _ _ _ _ => False) v
def onFunc (v : Value) (k : Fn → Array Value → Array Value → Prop) : Prop := Value.rec (motive_1 := fun _ => Prop) (motive_2 := fun _ => Prop) (motive_3 := fun _ => Prop) (fun _ => False) (fun _ _ => False) (fun _ _ => False) (fun _ _ _ => False) (fun _ => False) (fun _ => False) (fun _ _ _ => False) (fun _ => False) (fun _ => False) (fun f a b _ _ => k f a b) (False) (fun _ _ _ => False) (False) (fun _ _ => False) (fun _ _ => False) (fun _ _ => False) False (fun _ _ _ _ => False) v
def onTup (v : Value) (k : Array Value → Prop) : Prop := Value.rec (motive_1 := fun _ => Prop) (motive_2 := fun _ => Prop) (motive_3 := fun _ => Prop) (fun _ => False) (fun _ _ => False) (fun _ _ => False) (fun _ _ _ => False) (fun _ => False) (fun _ => False) (fun _ _ _ => False) (fun _ => False) (fun _ => False) (fun _ _ _ _ _ => False) (False) (fun _ _ _ => False) (False) (fun _ _ => False) (fun a _ => k a) (fun _ _ => False) False (fun _ _ _ _ => False) v
def onAgg (v : Value) (k : Array Value → Prop) (e : Prop) : Prop := Value.rec (motive_1 := fun _ => Prop) (motive_2 := fun _ => Prop) (motive_3 := fun _ => Prop) (fun _ => e) (fun _ _ => e) (fun _ _ => e) (fun _ _ _ => e) (fun _ => e) (fun _ => e) (fun _ _ _ => e) (fun _ => e) (fun _ => e) (fun _ _ _ _ _ => e) (e) (fun _ _ _ => e) (e) (fun a _ => k a) (fun _ _ => e) (fun _ _ => False) False (fun _ _ _ _ => False) v
/-- A value that a cell may hold. -/
def onOne (v : Value) (p : Prop) : Prop := Value.rec (motive_1 := fun _ => Prop) (motive_2 := fun _ => Prop) (motive_3 := fun _ => Prop) (fun _ => p) (fun _ _ => p) (fun _ _ => p) (fun _ _ _ => p) (fun _ => p) (fun _ => p) (fun _ _ _ => p) (fun _ => p) (fun _ => p) (fun _ _ _ _ _ => p) (p) (fun _ _ _ => p) (p) (fun a _ => False) (fun a _ => False) (fun _ _ => False) False (fun _ _ _ _ => False) v

theorem chk_iff {b : Bool} {p : Prop} : chk b p ↔ b = true ∧ p := by
  cases b
  · exact ⟨False.elim, fun h => nomatch h.1⟩
  · exact ⟨fun h => ⟨rfl, h⟩, And.right⟩
theorem ifB_iff {b : Bool} {p q : Prop} : ifB b p q ↔ (b = true ∧ p) ∨ (b = false ∧ q) := by
  cases b
  · exact ⟨fun h => .inr ⟨rfl, h⟩, fun h => h.elim (fun h => nomatch h.1) And.right⟩
  · exact ⟨fun h => .inl ⟨rfl, h⟩, fun h => h.elim And.right (fun h => nomatch h.1)⟩
theorem forceN_iff {n : Nat} {k : Nat → Prop} : forceN n k ↔ k n := by cases n <;> exact Iff.rfl
theorem forceI_iff {n : Int} {k : Int → Prop} : forceI n k ↔ k n := by
  cases n with
  | ofNat a => exact forceN_iff (k := fun a => k (.ofNat a))
  | negSucc a => exact forceN_iff (k := fun a => k (.negSucc a))
theorem forceB_iff {n : Bool} {k : Bool → Prop} : forceB n k ↔ k n := by cases n <;> exact Iff.rfl
theorem forceK_iff {n : IntKind} {k : IntKind → Prop} : forceK n k ↔ k n := by cases n <;> exact Iff.rfl
theorem onOpt_some {α : Type} {a : α} {n : Prop} {k : α → Prop} : onOpt (some a) n k ↔ k a := Iff.rfl
theorem forceA_iff {a : Addr} {k : Addr → Prop} : forceA a k ↔ k a := by
  obtain ⟨b, o, s⟩ := a
  refine (forceN_iff (k := fun b => forceN o fun o => onOpt s (k ⟨b, o, none⟩) fun s => k ⟨b, o, some s⟩)).trans ((forceN_iff (k := fun o => onOpt s (k ⟨b, o, none⟩) fun s => k ⟨b, o, some s⟩)).trans ?_)
  cases s <;> exact Iff.rfl
theorem forceO_iff {a : Option Addr} {k : Option Addr → Prop} : forceO a k ↔ k a := by
  cases a
  · exact Iff.rfl
  · rename_i a
    exact forceA_iff (k := fun a => k (some a))
theorem forceV_iff {v : Value} {k : Value → Prop} : forceV v k ↔ k v := by
  cases v with
  | bool b => exact forceB_iff (k := fun b => k (.bool b))
  | int i n => exact (forceK_iff (k := fun i => forceI n fun n => k (.int i n))).trans (forceI_iff (k := fun n => k (.int i n)))
  | pointer a => exact forceO_iff (k := fun a => k (.pointer a))
  | slice a l c => exact (forceO_iff (k := fun a => forceN l fun l => forceN c fun c => k (.slice a l c))).trans ((forceN_iff (k := fun l => forceN c fun c => k (.slice a l c))).trans (forceN_iff (k := fun c => k (.slice a l c))))
  | _ => exact Iff.rfl
theorem onInt_out {v : Value} {k : IntKind → Int → Prop} {e : Prop} (h : onInt v k e) : (∃ i n, v = .int i n ∧ k i n) ∨ e := by
  cases v with
  | int i n => exact .inl ⟨i, n, rfl, h⟩
  | _ => exact .inr h
theorem onBool_out {v : Value} {k : Bool → Prop} (h : onBool v k) : ∃ b, v = .bool b ∧ k b := by
  cases v with
  | bool b => exact ⟨b, rfl, h⟩
  | _ => exact h.elim
theorem onPtr_out {v : Value} {k : Addr → Prop} (h : onPtr v k) : ∃ a, v = .pointer (some a) ∧ k a := by
  cases v with
  | pointer a => cases a with
    | none => exact h.elim
    | some a => exact ⟨a, rfl, h⟩
  | _ => exact h.elim
theorem onSlice_out {v : Value} {k : Option Addr → Nat → Nat → Prop} {e : Prop} (h : onSlice v k e) : (∃ a l c, v = .slice a l c ∧ k a l c) ∨ e := by
  cases v with
  | slice a l c => exact .inl ⟨a, l, c, rfl, h⟩
  | _ => exact .inr h
theorem onStr_out {v : Value} {k : ByteArray → Prop} {e : Prop} (h : onStr v k e) : (∃ s, v = .string s ∧ k s) ∨ e := by
  cases v with
  | string s => exact .inl ⟨s, rfl, h⟩
  | _ => exact .inr h
theorem onFunc_out {v : Value} {k : Fn → Array Value → Array Value → Prop} (h : onFunc v k) : ∃ f a b, v = .func f a b ∧ k f a b := by
  cases v with
  | func f a b => exact ⟨f, a, b, rfl, h⟩
  | _ => exact h.elim
theorem onTup_out {v : Value} {k : Array Value → Prop} (h : onTup v k) : ∃ a, v = .tuple a ∧ k a := by
  cases v with
  | tuple a => exact ⟨a, rfl, h⟩
  | _ => exact h.elim
theorem onAgg_out {v : Value} {k : Array Value → Prop} {e : Prop} (h : onAgg v k e) : (∃ a, v = .agg a ∧ k a) ∨ (v.cells = #[v] ∧ e) := by
  cases v with
  | agg a => exact .inl ⟨a, rfl, h⟩
  | _ => exact .inr ⟨rfl, h⟩
theorem onOne_out {v : Value} {p : Prop} (h : onOne v p) : v.oneCell' = true ∧ holeB v = false ∧ p := by
  cases v with
  | agg a => exact h.elim
  | tuple a => exact h.elim
  | _ => exact ⟨rfl, rfl, h⟩

/-- An answer of a plain formula. -/
def pureK (o : Option Value) (k : Value → Prop) : Prop := onOpt o False fun v => forceV v k
theorem pureK_out {o : Option Value} {k : Value → Prop} (h : pureK o k) : ∃ v, o = some v ∧ k v := by
  cases o with
  | none => exact h.elim
  | some v => exact ⟨v, rfl, forceV_iff.1 h⟩

/-! ### Slots -/
abbrev NV := N16 Value
inductive WT | mk (f : TT → (NV → Prop) → Prop)
inductive WV | mk (f : NV → (Value → Prop) → Prop)
inductive QT | mk (f : NV → TT → (TT → Prop) → Prop)
inductive QV | mk (f : Value → NV → (NV → Prop) → Prop)
def tabT : D → WT
  | .d0 => .mk g0T
  | .d1 => .mk g1T
  | .d2 => .mk g2T
  | .d3 => .mk g3T
  | .d4 => .mk g4T
  | .d5 => .mk g5T
  | .d6 => .mk g6T
  | .d7 => .mk g7T
  | .d8 => .mk g8T
  | .d9 => .mk g9T
  | .d10 => .mk g10T
  | .d11 => .mk g11T
  | .d12 => .mk g12T
  | .d13 => .mk g13T
  | .d14 => .mk g14T
  | .d15 => .mk g15T
def tabV : D → WV
  | .d0 => .mk g0V
  | .d1 => .mk g1V
  | .d2 => .mk g2V
  | .d3 => .mk g3V
  | .d4 => .mk g4V
  | .d5 => .mk g5V
  | .d6 => .mk g6V
  | .d7 => .mk g7V
  | .d8 => .mk g8V
  | .d9 => .mk g9V
  | .d10 => .mk g10V
  | .d11 => .mk g11V
  | .d12 => .mk g12V
  | .d13 => .mk g13V
  | .d14 => .mk g14V
  | .d15 => .mk g15V
def tqT : D → QT
  | .d0 => .mk p0T
  | .d1 => .mk p1T
  | .d2 => .mk p2T
  | .d3 => .mk p3T
  | .d4 => .mk p4T
  | .d5 => .mk p5T
  | .d6 => .mk p6T
  | .d7 => .mk p7T
  | .d8 => .mk p8T
  | .d9 => .mk p9T
  | .d10 => .mk p10T
  | .d11 => .mk p11T
  | .d12 => .mk p12T
  | .d13 => .mk p13T
  | .d14 => .mk p14T
  | .d15 => .mk p15T
def tqV : D → QV
  | .d0 => .mk p0V
  | .d1 => .mk p1V
  | .d2 => .mk p2V
  | .d3 => .mk p3V
  | .d4 => .mk p4V
  | .d5 => .mk p5V
  | .d6 => .mk p6V
  | .d7 => .mk p7V
  | .d8 => .mk p8V
  | .d9 => .mk p9V
  | .d10 => .mk p10V
  | .d11 => .mk p11V
  | .d12 => .mk p12V
  | .d13 => .mk p13V
  | .d14 => .mk p14V
  | .d15 => .mk p15V
/-- How an operand is read; how a slot is written. -/
inductive KG | mk (f : TT → (Value → Prop) → Prop)
inductive KW | mk (f : Value → TT → (TT → Prop) → Prop)
def rr (f : TT → (NV → Prop) → Prop) (g : NV → (Value → Prop) → Prop) (T : TT) (k : Value → Prop) : Prop := f T fun u => g u k
def rv (v : Value) (_ : TT) (k : Value → Prop) : Prop := k v
def rbad (_ : TT) (_ : Value → Prop) : Prop := False
def ww (f : TT → (NV → Prop) → Prop) (p : Value → NV → (NV → Prop) → Prop) (q : NV → TT → (TT → Prop) → Prop) (v : Value) (T : TT) (k : TT → Prop) : Prop := f T fun u => p v u fun u => q u T k
def cr (d : Nat) : KG := match tabT (dig (d / 16)), tabV (dig (d % 16)) with
  | .mk f, .mk g => .mk (rr f g)
def cw (d : Nat) : KW := match tabT (dig (d / 16)), tqV (dig (d % 16)), tqT (dig (d / 16)) with
  | .mk f, .mk p, .mk q => .mk (ww f p q)
def rd (g : KG) (T : TT) (k : Value → Prop) : Prop := KG.rec (motive := fun _ => Prop) (fun f => f T k) g
def wr (w : KW) (v : Value) (T : TT) (k : TT → Prop) : Prop := KW.rec (motive := fun _ => Prop) (fun f => f v T k) w
def cg : Operand → KG
  | .tmp i => match Nat.blt i 256 with
    | true => cr i
    | false => .mk rbad
  | .const v => .mk (rv v)
  | .func f => .mk (rv (.func (.func f) ⟨[]⟩ ⟨[]⟩))
  | .global _ => .mk rbad

def TRel (T : TT) (t : Temps) : Prop := ∀ i, i < 256 → T.get i = t i
theorem tabT_ok (d : D) : tabT d = .mk (selT d) := by cases d <;> rfl
theorem tabV_ok (d : D) : tabV d = .mk (selV d) := by cases d <;> rfl
theorem tqT_ok (d : D) : tqT d = .mk (putT d) := by cases d <;> rfl
theorem tqV_ok (d : D) : tqV d = .mk (putV d) := by cases d <;> rfl
theorem cr_ok (d : Nat) : cr d = .mk (rr (selT (dig (d / 16))) (selV (dig (d % 16)))) := by
  simp only [cr, tabT_ok, tabV_ok]
theorem cw_ok (d : Nat) : cw d = .mk (ww (selT (dig (d / 16))) (putV (dig (d % 16))) (putT (dig (d / 16)))) := by
  simp only [cw, tabT_ok, tqV_ok, tqT_ok]
theorem rd_out {x : Operand} {T : TT} {t : Temps} {k : Value → Prop} (hT : TRel T t) (h : rd (cg x) T k) : k (eval t x) := by
  cases x with
  | tmp i =>
    simp only [cg] at h
    split at h
    · rename_i hi
      have h2 : i < 256 := by simpa [Nat.blt_eq] using hi
      rw [cr_ok] at h
      have h3 := (selV_iff _ _ _).1 ((selT_iff _ T (fun u => selV _ u k)).1 h)
      have := hT i h2
      unfold TT.get at this
      simp only [eval]
      rw [← this]
      exact h3
    · exact h.elim
  | const v => exact h
  | func f => exact h
  | global g => exact h.elim
theorem wr_out {i : Nat} {v : Value} {T : TT} {t : Temps} {k : TT → Prop} (hi : i < 256) (hT : TRel T t) (h : wr (cw i) v T k) : TRel (T.set i v) (tset t i v) ∧ k (T.set i v) := by
  refine ⟨fun j hj => ?_, ?_⟩
  · rw [TT.get_set _ _ _ _ hi hj]
    unfold tset
    split
    · rfl
    · exact hT j hj
  · rw [cw_ok] at h
    exact (putT_iff _ _ _ _).1 ((putV_iff _ v _ (fun u => putT _ u T k)).1 ((selT_iff _ T (fun u => putV _ v u fun u => putT _ u T k)).1 h))

end Go.Mach.J