/- Words for memory that the walks share. -/
import Derived.Test.YtanjlcjpcenejaaRows
import Derived.WalkKit
import Derived.WalkSpells
import Derived.WalkLawsBesides
import Derived.Lib.Hide
import Derived.Deep.Draws
import Derived.Deep.DeepFit
import Derived.Outline
import Derived.Test.YtanjlcjpcenejaaPlain
import Derived.Deep.QuietTactic
import Derived.BigQuiet
import Derived.Deep.RegionWith
import Derived.Deep.RegionHeld3
import Derived.Deep.DeepCutAuto
import Derived.Deep.AppendLies
import Derived.Deep.RegionLaw
namespace Go.Proofs.Ytanjlcjpcenejaa
open Go.RowKit

/-- A slice (address A, length n) holds the one-cell values xs; it lies below block B. -/
def Reads (w : World) (B : Nat) (A : Option Addr) (n : Nat) (xs : List Value) : Prop :=
  xs.length = n ∧ (0 < n → ∃ ad, A = some ad ∧ ad.block < B ∧ ∀ j u, xs[j]? = some u → w.cell? (ad.add j) = some u)

theorem ret_int {k : IntKind} {a b : Int} (h : a = b) : Ending.returned (.int k a) = .returned (.int k b) := by rw [h]
theorem ret_bool {a b : Bool} (h : a = b) : Ending.returned (.bool a) = .returned (.bool b) := by rw [h]

theorem block_of_add (a : Addr) (n : Nat) : (a.add n).block = a.block := by unfold Addr.add; split <;> rfl

section
variable {w w' : World} {B B' n : Nat} {A : Option Addr} {xs : List Value}
theorem Reads.keep (h : Reads w B A n xs) (hk : ∀ p : Addr, p.block < B → w'.cell? p = w.cell? p) : Reads w' B A n xs :=
  ⟨h.1, fun hn => by
    obtain ⟨ad, e, hb, hc⟩ := h.2 hn
    exact ⟨ad, e, hb, fun j u hu => (hk _ (by rw [block_of_add]; exact hb)).trans (hc j u hu)⟩⟩
theorem Reads.more (h : Reads w B A n xs) (hB : B ≤ B') : Reads w B' A n xs :=
  ⟨h.1, fun hn => by
    obtain ⟨ad, e, hb, hc⟩ := h.2 hn
    exact ⟨ad, e, by omega, hc⟩⟩
theorem Reads.lt (h : Reads w B A n xs) (hn : 0 < n) : ∃ ad, A = some ad ∧ ad.block < B := by obtain ⟨ad, e, hb, _⟩ := h.2 hn; exact ⟨ad, e, hb⟩
theorem Reads.drewN (h : Reads w B A n xs) (k : Nat) : Reads (w.drewN k) B A n xs := h
theorem Reads.alloc (h : Reads w B A n xs) (hB : B ≤ w.heap.size) (o : Obj) : Reads (w.alloc o) B A n xs := h.keep fun p hp => World.cell?_alloc_lt w o p (by omega)
theorem Reads.setCell (h : Reads w B A n xs) {p : Addr} (hB : B ≤ p.block) (u : Value) : Reads (w.setCell p u) B A n xs :=
  h.keep fun q hq => World.cell?_setCell_other w p q u (fun e => by subst e; omega)
theorem Reads.below (h : Reads w B A n xs) (hb : Below B w w') : Reads w' B A n xs := h.keep fun _ hp => hb.cell hp
end

/-- A quiet call, the caller's world on the left. -/
theorem quiet_left {P : Program} {f : FuncId} {args : Array Value} {w : World} {n : Nat} {v : Value}
    (h : Calls P f args (w.drewN n) fun e w' => e = .returned v ∧ w.drewN n = w') : Calls P f args (w.drewN n) fun e w'' => e = .returned v ∧ ∃ m, w'' = w.drewN m :=
  h.mono fun _ _ ⟨he, hw⟩ => ⟨he, n, hw.symm⟩
theorem quiet_add_left {P : Program} {f : FuncId} {args : Array Value} {w : World} {a n : Nat} {v : Value}
    (h : Calls P f args (w.drewN (a + n)) fun e w' => e = .returned v ∧ w.drewN (a + n) = w') :
    Calls P f args (w.drewN (a + n)) fun e w'' => e = .returned v ∧ ∃ m, w'' = w.drewN (a + m) :=
  h.mono fun _ _ ⟨he, hm⟩ => ⟨he, n, hm.symm⟩
theorem below_drewN {B : Nat} {a w : World} (h : Below B a w) (n : Nat) : Below B a (w.drewN n) := ⟨h.os, h.tape, h.output, h.size, h.block⟩

theorem drewN_past (w : World) (k : Nat) (o : Obj) (n i : Nat) (hn : n < w.heap.size) : ((w.drewN k).alloc o).cell? ⟨n, i, none⟩ = w.cell? ⟨n, i, none⟩ := World.cell?_alloc_past (w := w.drewN k) o n i hn
theorem drewN_past_frozen (w : World) (k : Nat) (o : Obj) (n i : Nat) (hn : n < w.heap.size) : ((w.drewN k).alloc o).frozen? ⟨n, i, none⟩ = w.frozen? ⟨n, i, none⟩ := World.frozen?_alloc_past (w := w.drewN k) o n i hn
attribute [go_sem] drewN_past drewN_past_frozen
theorem heap_at_new (w : World) (o : Obj) (k : Nat) (hk : k = w.heap.size) : (w.alloc o).heap[k]? = some o := by subst hk; exact heap_alloc_new w o
/-- A block that is known whole reads as a row. -/
theorem reads_blk {w : World} {g : Nat} {t : TypeId} {cs : Array Value} (xs : List Value) (h : w.heap[g]? = some (.cells cs t (0, 0))) (hx : cs.toList.take xs.length = xs) : Reads w w.heap.size (some ⟨g, 0, none⟩) xs.length xs := by
  have hg : g < w.heap.size := by
    rcases Nat.lt_or_ge g w.heap.size with hlt | hge
    · exact hlt
    · rw [Array.getElem?_eq_none hge] at h; cases h
  refine ⟨rfl, fun _ => ⟨⟨g, 0, none⟩, rfl, hg, fun j u hu => ?_⟩⟩
  have hadd : (⟨g, 0, none⟩ : Addr).add j = ⟨g, j, none⟩ := by unfold Addr.add; split <;> simp_all
  rw [hadd, cell_of_row w g j cs t (0, 0) h]
  rw [← hx, List.getElem?_take] at hu
  split at hu
  · simpa using hu
  · cases hu
theorem blk_cell {w : World} {g : Nat} {t : TypeId} {cs : Array Value} (h : w.heap[g]? = some (.cells cs t (0, 0))) (i : Nat) : w.cell? ⟨g, i, none⟩ = cs[i]? := cell_of_row w g i cs t (0, 0) h
theorem blk_frozen {w : World} {g : Nat} {t : TypeId} {cs : Array Value} (h : w.heap[g]? = some (.cells cs t (0, 0))) (i : Nat) : w.frozen? ⟨g, i, none⟩ = false := by simp [World.frozen?, h]
theorem blk_lt {w : World} {g : Nat} {o : Obj} (h : w.heap[g]? = some o) : g < w.heap.size := by
  rcases Nat.lt_or_ge g w.heap.size with hlt | hge
  · exact hlt
  · rw [Array.getElem?_eq_none hge] at h; cases h
theorem blk_set {w : World} {g : Nat} {t : TypeId} {cs : Array Value} (h : w.heap[g]? = some (.cells cs t (0, 0))) (i : Nat) (u : Value) : (w.setCell ⟨g, i, none⟩ u).heap[g]? = some (.cells (cs.setIfInBounds i u) t (0, 0)) := by
  simp [World.setCell, Array.getElem?_modify, h]

/-- A tensor's value reads as t. -/
structure TenAt (w : World) (B : Nat) (A : Option Addr) (n : Nat) (D : Option Addr) (m : Nat) (t : Pl.Ten) : Prop where
  dims : Reads w B A n (t.dims.map (Value.int .i64))
  data : Reads w B D m (t.data.map (Value.int .i8))
  hn : n ≤ maxLen
  hm : m ≤ maxLen
/-- Sums read as t. -/
structure SumsAt (w : World) (B : Nat) (A : Option Addr) (n : Nat) (D : Option Addr) (m : Nat) (t : Pl.Sums) : Prop where
  dims : Reads w B A n (t.dims.map (Value.int .i64))
  data : Reads w B D m (t.data.map (Value.int .i32))
  hn : n ≤ maxLen
  hm : m ≤ maxLen
theorem TenAt.keep {w w' : World} {B : Nat} {A D : Option Addr} {n m : Nat} {t : Pl.Ten} (h : TenAt w B A n D m t) (hk : ∀ p : Addr, p.block < B → w'.cell? p = w.cell? p) : TenAt w' B A n D m t :=
  ⟨h.dims.keep hk, h.data.keep hk, h.hn, h.hm⟩
theorem TenAt.more {w : World} {B B' : Nat} {A D : Option Addr} {n m : Nat} {t : Pl.Ten} (h : TenAt w B A n D m t) (hB : B ≤ B') : TenAt w B' A n D m t :=
  ⟨h.dims.more hB, h.data.more hB, h.hn, h.hm⟩
theorem TenAt.below {w w' : World} {B : Nat} {A D : Option Addr} {n m : Nat} {t : Pl.Ten} (h : TenAt w B A n D m t) (hb : Below B w w') : TenAt w' B A n D m t := h.keep fun _ hp => hb.cell hp

/-- A tensor's value. -/
structure TV where
  A : Option Addr
  n : Nat
  c : Nat
  e : Int
  D : Option Addr
  m : Nat
  d : Nat
def TV.val (v : TV) : Value := .agg #[.slice v.A v.n v.c, .int .i64 v.e, .slice v.D v.m v.d]
/-- The value v reads as the tensor t. -/
def TV.At (v : TV) (w : World) (B : Nat) (t : Pl.Ten) : Prop := v.e = t.exp ∧ TenAt w B v.A v.n v.D v.m t
/-- Block b holds tensors, three cells each. -/
structure TVs (w : World) (B b : Nat) (n : Nat) (vs : Nat → TV) (ts : List Pl.Ten) : Prop where
  hb : b < B
  len : ts.length = n
  c0 : ∀ i, i < n → w.cell? ⟨b, i * 3, none⟩ = some (.slice (vs i).A (vs i).n (vs i).c)
  c1 : ∀ i, i < n → w.cell? ⟨b, i * 3 + 1, none⟩ = some (.int .i64 (vs i).e)
  c2 : ∀ i, i < n → w.cell? ⟨b, i * 3 + 2, none⟩ = some (.slice (vs i).D (vs i).m (vs i).d)
  at_ : ∀ i t, ts[i]? = some t → (vs i).At w B t

end Go.Proofs.Ytanjlcjpcenejaa
