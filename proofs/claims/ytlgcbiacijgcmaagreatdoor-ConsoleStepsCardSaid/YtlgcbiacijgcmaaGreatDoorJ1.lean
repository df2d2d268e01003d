/- A machine for concrete runs: slots in nodes of sixteen, cells and blocks in trees; every step is a proposition about what follows, so that Lean's kernel can walk it. Plain definitions and their laws; no condition. -/
import Derived.Test.YtlgcbiacijgcmaaGreatDoorKept
namespace Go.Mach.J
open Go Go.Mach

inductive D
  | d0 | d1 | d2 | d3 | d4 | d5 | d6 | d7 | d8 | d9 | d10 | d11 | d12 | d13 | d14 | d15

structure N16 (α : Type) where
  (a0 a1 a2 a3 a4 a5 a6 a7 a8 a9 a10 a11 a12 a13 a14 a15 : α)

def N16.all {α : Type} (a : α) : N16 α := ⟨a, a, a, a, a, a, a, a, a, a, a, a, a, a, a, a⟩

def g0V (t : N16 Value) (k : Value → Prop) : Prop := N16.rec (motive := fun _ => Prop) (fun a _ _ _ _ _ _ _ _ _ _ _ _ _ _ _ => k a) t
def g1V (t : N16 Value) (k : Value → Prop) : Prop := N16.rec (motive := fun _ => Prop) (fun _ a _ _ _ _ _ _ _ _ _ _ _ _ _ _ => k a) t
def g2V (t : N16 Value) (k : Value → Prop) : Prop := N16.rec (motive := fun _ => Prop) (fun _ _ a _ _ _ _ _ _ _ _ _ _ _ _ _ => k a) t
def g3V (t : N16 Value) (k : Value → Prop) : Prop := N16.rec (motive := fun _ => Prop) (fun _ _ _ a _ _ _ _ _ _ _ _ _ _ _ _ => k a) t
def g4V (t : N16 Value) (k : Value → Prop) : Prop := N16.rec (motive := fun _ => Prop) (fun _ _ _ _ a _ _ _ _ _ _ _ _ _ _ _ => k a) t
def g5V (t : N16 Value) (k : Value → Prop) : Prop := N16.rec (motive := fun _ => Prop) (fun _ _ _ _ _ a _ _ _ _ _ _ _ _ _ _ => k a) t
def g6V (t : N16 Value) (k : Value → Prop) : Prop := N16.rec (motive := fun _ => Prop) (fun _ _ _ _ _ _ a _ _ _ _ _ _ _ _ _ => k a) t
def g7V (t : N16 Value) (k : Value → Prop) : Prop := N16.rec (motive := fun _ => Prop) (fun _ _ _ _ _ _ _ a _ _ _ _ _ _ _ _ => k a) t
def g8V (t : N16 Value) (k : Value → Prop) : Prop := N16.rec (motive := fun _ => Prop) (fun _ _ _ _ _ _ _ _ a _ _ _ _ _ _ _ => k a) t
def g9V (t : N16 Value) (k : Value → Prop) : Prop := N16.rec (motive := fun _ => Prop) (fun _ _ _ _ _ _ _ _ _ a _ _ _ _ _ _ => k a) t
def g10V (t : N16 Value) (k : Value → Prop) : Prop := N16.rec (motive := fun _ => Prop) (fun _ _ _ _ _ _ _ _ _ _ a _ _ _ _ _ => k a) t
def g11V (t : N16 Value) (k : Value → Prop) : Prop := N16.rec (motive := fun _ => Prop) (fun _ _ _ _ _ _ _ _ _ _ _ a _ _ _ _ => k a) t
def g12V (t : N16 Value) (k : Value → Prop) : Prop := N16.rec (motive := fun _ => Prop) (fun _ _ _ _ _ _ _ _ _ _ _ _ a _ _ _ => k a) t
def g13V (t : N16 Value) (k : Value → Prop) : Prop := N16.rec (motive := fun _ => Prop) (fun _ _ _ _ _ _ _ _ _ _ _ _ _ a _ _ => k a) t
def g14V (t : N16 Value) (k : Value → Prop) : Prop := N16.rec (motive := fun _ => Prop) (fun _ _ _ _ _ _ _ _ _ _ _ _ _ _ a _ => k a) t
def g15V (t : N16 Value) (k : Value → Prop) : Prop := N16.rec (motive := fun _ => Prop) (fun _ _ _ _ _ _ _ _ _ _ _ _ _ _ _ a => k a) t
def p0V (x : Value) (t : N16 Value) (k : N16 Value → Prop) : Prop := N16.rec (motive := fun _ => Prop) (fun _ a1 a2 a3 a4 a5 a6 a7 a8 a9 a10 a11 a12 a13 a14 a15 => k ⟨x, a1, a2, a3, a4, a5, a6, a7, a8, a9, a10, a11, a12, a13, a14, a15⟩) t
def p1V (x : Value) (t : N16 Value) (k : N16 Value → Prop) : Prop := N16.rec (motive := fun _ => Prop) (fun a0 _ a2 a3 a4 a5 a6 a7 a8 a9 a10 a11 a12 a13 a14 a15 => k ⟨a0, x, a2, a3, a4, a5, a6, a7, a8, a9, a10, a11, a12, a13, a14, a15⟩) t
def p2V (x : Value) (t : N16 Value) (k : N16 Value → Prop) : Prop := N16.rec (motive := fun _ => Prop) (fun a0 a1 _ a3 a4 a5 a6 a7 a8 a9 a10 a11 a12 a13 a14 a15 => k ⟨a0, a1, x, a3, a4, a5, a6, a7, a8, a9, a10, a11, a12, a13, a14, a15⟩) t
def p3V (x : Value) (t : N16 Value) (k : N16 Value → Prop) : Prop := N16.rec (motive := fun _ => Prop) (fun a0 a1 a2 _ a4 a5 a6 a7 a8 a9 a10 a11 a12 a13 a14 a15 => k ⟨a0, a1, a2, x, a4, a5, a6, a7, a8, a9, a10, a11, a12, a13, a14, a15⟩) t
def p4V (x : Value) (t : N16 Value) (k : N16 Value → Prop) : Prop := N16.rec (motive := fun _ => Prop) (fun a0 a1 a2 a3 _ a5 a6 a7 a8 a9 a10 a11 a12 a13 a14 a15 => k ⟨a0, a1, a2, a3, x, a5, a6, a7, a8, a9, a10, a11, a12, a13, a14, a15⟩) t
def p5V (x : Value) (t : N16 Value) (k : N16 Value → Prop) : Prop := N16.rec (motive := fun _ => Prop) (fun a0 a1 a2 a3 a4 _ a6 a7 a8 a9 a10 a11 a12 a13 a14 a15 => k ⟨a0, a1, a2, a3, a4, x, a6, a7, a8, a9, a10, a11, a12, a13, a14, a15⟩) t
def p6V (x : Value) (t : N16 Value) (k : N16 Value → Prop) : Prop := N16.rec (motive := fun _ => Prop) (fun a0 a1 a2 a3 a4 a5 _ a7 a8 a9 a10 a11 a12 a13 a14 a15 => k ⟨a0, a1, a2, a3, a4, a5, x, a7, a8, a9, a10, a11, a12, a13, a14, a15⟩) t
def p7V (x : Value) (t : N16 Value) (k : N16 Value → Prop) : Prop := N16.rec (motive := fun _ => Prop) (fun a0 a1 a2 a3 a4 a5 a6 _ a8 a9 a10 a11 a12 a13 a14 a15 => k ⟨a0, a1, a2, a3, a4, a5, a6, x, a8, a9, a10, a11, a12, a13, a14, a15⟩) t
def p8V (x : Value) (t : N16 Value) (k : N16 Value → Prop) : Prop := N16.rec (motive := fun _ => Prop) (fun a0 a1 a2 a3 a4 a5 a6 a7 _ a9 a10 a11 a12 a13 a14 a15 => k ⟨a0, a1, a2, a3, a4, a5, a6, a7, x, a9, a10, a11, a12, a13, a14, a15⟩) t
def p9V (x : Value) (t : N16 Value) (k : N16 Value → Prop) : Prop := N16.rec (motive := fun _ => Prop) (fun a0 a1 a2 a3 a4 a5 a6 a7 a8 _ a10 a11 a12 a13 a14 a15 => k ⟨a0, a1, a2, a3, a4, a5, a6, a7, a8, x, a10, a11, a12, a13, a14, a15⟩) t
def p10V (x : Value) (t : N16 Value) (k : N16 Value → Prop) : Prop := N16.rec (motive := fun _ => Prop) (fun a0 a1 a2 a3 a4 a5 a6 a7 a8 a9 _ a11 a12 a13 a14 a15 => k ⟨a0, a1, a2, a3, a4, a5, a6, a7, a8, a9, x, a11, a12, a13, a14, a15⟩) t
def p11V (x : Value) (t : N16 Value) (k : N16 Value → Prop) : Prop := N16.rec (motive := fun _ => Prop) (fun a0 a1 a2 a3 a4 a5 a6 a7 a8 a9 a10 _ a12 a13 a14 a15 => k ⟨a0, a1, a2, a3, a4, a5, a6, a7, a8, a9, a10, x, a12, a13, a14, a15⟩) t
def p12V (x : Value) (t : N16 Value) (k : N16 Value → Prop) : Prop := N16.rec (motive := fun _ => Prop) (fun a0 a1 a2 a3 a4 a5 a6 a7 a8 a9 a10 a11 _ a13 a14 a15 => k ⟨a0, a1, a2, a3, a4, a5, a6, a7, a8, a9, a10, a11, x, a13, a14, a15⟩) t
def p13V (x : Value) (t : N16 Value) (k : N16 Value → Prop) : Prop := N16.rec (motive := fun _ => Prop) (fun a0 a1 a2 a3 a4 a5 a6 a7 a8 a9 a10 a11 a12 _ a14 a15 => k ⟨a0, a1, a2, a3, a4, a5, a6, a7, a8, a9, a10, a11, a12, x, a14, a15⟩) t
def p14V (x : Value) (t : N16 Value) (k : N16 Value → Prop) : Prop := N16.rec (motive := fun _ => Prop) (fun a0 a1 a2 a3 a4 a5 a6 a7 a8 a9 a10 a11 a12 a13 _ a15 => k ⟨a0, a1, a2, a3, a4, a5, a6, a7, a8, a9, a10, a11, a12, a13, x, a15⟩) t
def p15V (x : Value) (t : N16 Value) (k : N16 Value → Prop) : Prop := N16.rec (motive := fun _ => Prop) (fun a0 a1 a2 a3 a4 a5 a6 a7 a8 a9 a10 a11 a12 a13 a14 _ => k ⟨a0, a1, a2, a3, a4, a5, a6, a7, a8, a9, a10, a11, a12, a13, a14, x⟩) t
def selV (d : D) : N16 Value → (Value → Prop) → Prop := D.rec (motive := fun _ => N16 Value → (Value → Prop) → Prop) g0V g1V g2V g3V g4V g5V g6V g7V g8V g9V g10V g11V g12V g13V g14V g15V d
def putV (d : D) : Value → N16 Value → (N16 Value → Prop) → Prop := D.rec (motive := fun _ => Value → N16 Value → (N16 Value → Prop) → Prop) p0V p1V p2V p3V p4V p5V p6V p7V p8V p9V p10V p11V p12V p13V p14V p15V d
def g0T (t : N16 (N16 Value)) (k : (N16 Value) → Prop) : Prop := N16.rec (motive := fun _ => Prop) (fun a _ _ _ _ _ _ _ _ _ _ _ _ _ _ _ => k a) t
def g1T (t : N16 (N16 Value)) (k : (N16 Value) → Prop) : Prop := N16.rec (motive := fun _ => Prop) (fun _ a _ _ _ _ _ _ _ _ _ _ _ _ _ _ => k a) t
def g2T (t : N16 (N16 Value)) (k : (N16 Value) → Prop) : Prop := N16.rec (motive := fun _ => Prop) (fun _ _ a _ _ _ _ _ _ _ _ _ _ _ _ _ => k a) t
def g3T (t : N16 (N16 Value)) (k : (N16 Value) → Prop) : Prop := N16.rec (motive := fun _ => Prop) (fun _ _ _ a _ _ _ _ _ _ _ _ _ _ _ _ => k a) t
def g4T (t : N16 (N16 Value)) (k : (N16 Value) → Prop) : Prop := N16.rec (motive := fun _ => Prop) (fun _ _ _ _ a _ _ _ _ _ _ _ _ _ _ _ => k a) t
def g5T (t : N16 (N16 Value)) (k : (N16 Value) → Prop) : Prop := N16.rec (motive := fun _ => Prop) (fun _ _ _ _ _ a _ _ _ _ _ _ _ _ _ _ => k a) t
def g6T (t : N16 (N16 Value)) (k : (N16 Value) → Prop) : Prop := N16.rec (motive := fun _ => Prop) (fun _ _ _ _ _ _ a _ _ _ _ _ _ _ _ _ => k a) t
def g7T (t : N16 (N16 Value)) (k : (N16 Value) → Prop) : Prop := N16.rec (motive := fun _ => Prop) (fun _ _ _ _ _ _ _ a _ _ _ _ _ _ _ _ => k a) t
def g8T (t : N16 (N16 Value)) (k : (N16 Value) → Prop) : Prop := N16.rec (motive := fun _ => Prop) (fun _ _ _ _ _ _ _ _ a _ _ _ _ _ _ _ => k a) t
def g9T (t : N16 (N16 Value)) (k : (N16 Value) → Prop) : Prop := N16.rec (motive := fun _ => Prop) (fun _ _ _ _ _ _ _ _ _ a _ _ _ _ _ _ => k a) t
def g10T (t : N16 (N16 Value)) (k : (N16 Value) → Prop) : Prop := N16.rec (motive := fun _ => Prop) (fun _ _ _ _ _ _ _ _ _ _ a _ _ _ _ _ => k a) t
def g11T (t : N16 (N16 Value)) (k : (N16 Value) → Prop) : Prop := N16.rec (motive := fun _ => Prop) (fun _ _ _ _ _ _ _ _ _ _ _ a _ _ _ _ => k a) t
def g12T (t : N16 (N16 Value)) (k : (N16 Value) → Prop) : Prop := N16.rec (motive := fun _ => Prop) (fun _ _ _ _ _ _ _ _ _ _ _ _ a _ _ _ => k a) t
def g13T (t : N16 (N16 Value)) (k : (N16 Value) → Prop) : Prop := N16.rec (motive := fun _ => Prop) (fun _ _ _ _ _ _ _ _ _ _ _ _ _ a _ _ => k a) t
def g14T (t : N16 (N16 Value)) (k : (N16 Value) → Prop) : Prop := N16.rec (motive := fun _ => Prop) (fun _ _ _ _ _ _ _ _ _ _ _ _ _ _ a _ => k a) t
def g15T (t : N16 (N16 Value)) (k : (N16 Value) → Prop) : Prop := N16.rec (motive := fun _ => Prop) (fun _ _ _ _ _ _ _ _ _ _ _ _ _ _ _ a => k a) t
def p0T (x : (N16 Value)) (t : N16 (N16 Value)) (k : N16 (N16 Value) → Prop) : Prop := N16.rec (motive := fun _ => Prop) (fun _ a1 a2 a3 a4 a5 a6 a7 a8 a9 a10 a11 a12 a13 a14 a15 => k ⟨x, a1, a2, a3, a4, a5, a6, a7, a8, a9, a10, a11, a12, a13, a14, a15⟩) t
def p1T (x : (N16 Value)) (t : N16 (N16 Value)) (k : N16 (N16 Value) → Prop) : Prop := N16.rec (motive := fun _ => Prop) (fun a0 _ a2 a3 a4 a5 a6 a7 a8 a9 a10 a11 a12 a13 a14 a15 => k ⟨a0, x, a2, a3, a4, a5, a6, a7, a8, a9, a10, a11, a12, a13, a14, a15⟩) t
def p2T (x : (N16 Value)) (t : N16 (N16 Value)) (k : N16 (N16 Value) → Prop) : Prop := N16.rec (motive := fun _ => Prop) (fun a0 a1 _ a3 a4 a5 a6 a7 a8 a9 a10 a11 a12 a13 a14 a15 => k ⟨a0, a1, x, a3, a4, a5, a6, a7, a8, a9, a10, a11, a12, a13, a14, a15⟩) t
def p3T (x : (N16 Value)) (t : N16 (N16 Value)) (k : N16 (N16 Value) → Prop) : Prop := N16.rec (motive := fun _ => Prop) (fun a0 a1 a2 _ a4 a5 a6 a7 a8 a9 a10 a11 a12 a13 a14 a15 => k ⟨a0, a1, a2, x, a4, a5, a6, a7, a8, a9, a10, a11, a12, a13, a14, a15⟩) t
def p4T (x : (N16 Value)) (t : N16 (N16 Value)) (k : N16 (N16 Value) → Prop) : Prop := N16.rec (motive := fun _ => Prop) (fun a0 a1 a2 a3 _ a5 a6 a7 a8 a9 a10 a11 a12 a13 a14 a15 => k ⟨a0, a1, a2, a3, x, a5, a6, a7, a8, a9, a10, a11, a12, a13, a14, a15⟩) t
def p5T (x : (N16 Value)) (t : N16 (N16 Value)) (k : N16 (N16 Value) → Prop) : Prop := N16.rec (motive := fun _ => Prop) (fun a0 a1 a2 a3 a4 _ a6 a7 a8 a9 a10 a11 a12 a13 a14 a15 => k ⟨a0, a1, a2, a3, a4, x, a6, a7, a8, a9, a10, a11, a12, a13, a14, a15⟩) t
def p6T (x : (N16 Value)) (t : N16 (N16 Value)) (k : N16 (N16 Value) → Prop) : Prop := N16.rec (motive := fun _ => Prop) (fun a0 a1 a2 a3 a4 a5 _ a7 a8 a9 a10 a11 a12 a13 a14 a15 => k ⟨a0, a1, a2, a3, a4, a5, x, a7, a8, a9, a10, a11, a12, a13, a14, a15⟩) t
def p7T (x : (N16 Value)) (t : N16 (N16 Value)) (k : N16 (N16 Value) → Prop) : Prop := N16.rec (motive := fun _ => Prop) (fun a0 a1 a2 a3 a4 a5 a6 _ a8 a9 a10 a11 a12 a13 a14 a15 => k ⟨a0, a1, a2, a3, a4, a5, a6, x, a8, a9, a10, a11, a12, a13, a14, a15⟩) t
def p8T (x : (N16 Value)) (t : N16 (N16 Value)) (k : N16 (N16 Value) → Prop) : Prop := N16.rec (motive := fun _ => Prop) (fun a0 a1 a2 a3 a4 a5 a6 a7 _ a9 a10 a11 a12 a13 a14 a15 => k ⟨a0, a1, a2, a3, a4, a5, a6, a7, x, a9, a10, a11, a12, a13, a14, a15⟩) t
def p9T (x : (N16 Value)) (t : N16 (N16 Value)) (k : N16 (N16 Value) → Prop) : Prop := N16.rec (motive := fun _ => Prop) (fun a0 a1 a2 a3 a4 a5 a6 a7 a8 _ a10 a11 a12 a13 a14 a15 => k ⟨a0, a1, a2, a3, a4, a5, a6, a7, a8, x, a10, a11, a12, a13, a14, a15⟩) t
def p10T (x : (N16 Value)) (t : N16 (N16 Value)) (k : N16 (N16 Value) → Prop) : Prop := N16.rec (motive := fun _ => Prop) (fun a0 a1 a2 a3 a4 a5 a6 a7 a8 a9 _ a11 a12 a13 a14 a15 => k ⟨a0, a1, a2, a3, a4, a5, a6, a7, a8, a9, x, a11, a12, a13, a14, a15⟩) t
def p11T (x : (N16 Value)) (t : N16 (N16 Value)) (k : N16 (N16 Value) → Prop) : Prop := N16.rec (motive := fun _ => Prop) (fun a0 a1 a2 a3 a4 a5 a6 a7 a8 a9 a10 _ a12 a13 a14 a15 => k ⟨a0, a1, a2, a3, a4, a5, a6, a7, a8, a9, a10, x, a12, a13, a14, a15⟩) t
def p12T (x : (N16 Value)) (t : N16 (N16 Value)) (k : N16 (N16 Value) → Prop) : Prop := N16.rec (motive := fun _ => Prop) (fun a0 a1 a2 a3 a4 a5 a6 a7 a8 a9 a10 a11 _ a13 a14 a15 => k ⟨a0, a1, a2, a3, a4, a5, a6, a7, a8, a9, a10, a11, x, a13, a14, a15⟩) t
def p13T (x : (N16 Value)) (t : N16 (N16 Value)) (k : N16 (N16 Value) → Prop) : Prop := N16.rec (motive := fun _ => Prop) (fun a0 a1 a2 a3 a4 a5 a6 a7 a8 a9 a10 a11 a12 _ a14 a15 => k ⟨a0, a1, a2, a3, a4, a5, a6, a7, a8, a9, a10, a11, a12, x, a14, a15⟩) t
def p14T (x : (N16 Value)) (t : N16 (N16 Value)) (k : N16 (N16 Value) → Prop) : Prop := N16.rec (motive := fun _ => Prop) (fun a0 a1 a2 a3 a4 a5 a6 a7 a8 a9 a10 a11 a12 a13 _ a15 => k ⟨a0, a1, a2, a3, a4, a5, a6, a7, a8, a9, a10, a11, a12, a13, x, a15⟩) t
def p15T (x : (N16 Value)) (t : N16 (N16 Value)) (k : N16 (N16 Value) → Prop) : Prop := N16.rec (motive := fun _ => Prop) (fun a0 a1 a2 a3 a4 a5 a6 a7 a8 a9 a10 a11 a12 a13 a14 _ => k ⟨a0, a1, a2, a3, a4, a5, a6, a7, a8, a9, a10, a11, a12, a13, a14, x⟩) t
def selT (d : D) : N16 (N16 Value) → ((N16 Value) → Prop) → Prop := D.rec (motive := fun _ => N16 (N16 Value) → ((N16 Value) → Prop) → Prop) g0T g1T g2T g3T g4T g5T g6T g7T g8T g9T g10T g11T g12T g13T g14T g15T d
def putT (d : D) : (N16 Value) → N16 (N16 Value) → (N16 (N16 Value) → Prop) → Prop := D.rec (motive := fun _ => (N16 Value) → N16 (N16 Value) → (N16 (N16 Value) → Prop) → Prop) p0T p1T p2T p3T p4T p5T p6T p7T p8T p9T p10T p11T p12T p13T p14T p15T d
def N16.at {α : Type} (t : N16 α) : D → α
  | .d0 => t.a0
  | .d1 => t.a1
  | .d2 => t.a2
  | .d3 => t.a3
  | .d4 => t.a4
  | .d5 => t.a5
  | .d6 => t.a6
  | .d7 => t.a7
  | .d8 => t.a8
  | .d9 => t.a9
  | .d10 => t.a10
  | .d11 => t.a11
  | .d12 => t.a12
  | .d13 => t.a13
  | .d14 => t.a14
  | .d15 => t.a15
def N16.wth {α : Type} (t : N16 α) (x : α) : D → N16 α
  | .d0 => { t with a0 := x }
  | .d1 => { t with a1 := x }
  | .d2 => { t with a2 := x }
  | .d3 => { t with a3 := x }
  | .d4 => { t with a4 := x }
  | .d5 => { t with a5 := x }
  | .d6 => { t with a6 := x }
  | .d7 => { t with a7 := x }
  | .d8 => { t with a8 := x }
  | .d9 => { t with a9 := x }
  | .d10 => { t with a10 := x }
  | .d11 => { t with a11 := x }
  | .d12 => { t with a12 := x }
  | .d13 => { t with a13 := x }
  | .d14 => { t with a14 := x }
  | .d15 => { t with a15 := x }
theorem selV_iff (d : D) (t : N16 Value) (k : Value → Prop) : selV d t k ↔ k (t.at d) := by cases d <;> exact Iff.rfl
theorem putV_iff (d : D) (x : Value) (t : N16 Value) (k : N16 Value → Prop) : putV d x t k ↔ k (t.wth x d) := by cases d <;> exact Iff.rfl
theorem selT_iff (d : D) (t : N16 (N16 Value)) (k : N16 Value → Prop) : selT d t k ↔ k (t.at d) := by cases d <;> exact Iff.rfl
theorem putT_iff (d : D) (x : N16 Value) (t : N16 (N16 Value)) (k : N16 (N16 Value) → Prop) : putT d x t k ↔ k (t.wth x d) := by cases d <;> exact Iff.rfl
theorem at_wth {α : Type} (d : D) (x : α) (t : N16 α) : (t.wth x d).at d = x := by cases d <;> rfl
theorem at_wth_ne {α : Type} (d e : D) (x : α) (t : N16 α) (h : e ≠ d) : (t.wth x d).at e = t.at e := by
  cases d <;> cases e <;> first | rfl | exact absurd rfl h
theorem at_all {α : Type} (d : D) (x : α) : (N16.all x).at d = x := by cases d <;> rfl

def dig : Nat → D
  | 0 => .d0
  | 1 => .d1
  | 2 => .d2
  | 3 => .d3
  | 4 => .d4
  | 5 => .d5
  | 6 => .d6
  | 7 => .d7
  | 8 => .d8
  | 9 => .d9
  | 10 => .d10
  | 11 => .d11
  | 12 => .d12
  | 13 => .d13
  | 14 => .d14
  | _ => .d15
def und : D → Nat
  | .d0 => 0
  | .d1 => 1
  | .d2 => 2
  | .d3 => 3
  | .d4 => 4
  | .d5 => 5
  | .d6 => 6
  | .d7 => 7
  | .d8 => 8
  | .d9 => 9
  | .d10 => 10
  | .d11 => 11
  | .d12 => 12
  | .d13 => 13
  | .d14 => 14
  | .d15 => 15
theorem und_dig : ∀ i, i < 16 → und (dig i) = i := by decide
theorem dig_inj {i j : Nat} (hi : i < 16) (hj : j < 16) (h : dig i = dig j) : i = j := by rw [← und_dig i hi, ← und_dig j hj, h]

abbrev TT := N16 (N16 Value)
def TT.get (t : TT) (i : Nat) : Value := (N16.at t (dig (i / 16))).at (dig (i % 16))
def TT.set (t : TT) (i : Nat) (v : Value) : TT := N16.wth t ((N16.at t (dig (i / 16))).wth v (dig (i % 16))) (dig (i / 16))
theorem TT.get_set (t : TT) (i j : Nat) (v : Value) (hi : i < 256) (hj : j < 256) : (t.set i v).get j = if j = i then v else t.get j := by
  unfold TT.get TT.set
  by_cases h : j = i
  · subst h; rw [at_wth, at_wth, if_pos rfl]
  · rw [if_neg h]
    by_cases h1 : dig (j / 16) = dig (i / 16)
    · rw [h1, at_wth, at_wth_ne]
      intro h2
      have e1 := dig_inj (by omega) (by omega) h1
      have e2 := dig_inj (by omega) (by omega) h2
      omega
    · rw [at_wth_ne _ _ _ _ h1]

/-! ### Trees -/
inductive Pth | z | l (p : Pth) | r (p : Pth)
def pthF : Nat → Nat → Pth
  | 0, _ => .z
  | f + 1, n => match n with
    | 0 => .z
    | m + 1 => match m % 2 with
      | 0 => .l (pthF f (m / 2))
      | _ => .r (pthF f (m / 2))
def pth (n : Nat) : Pth := pthF 40 n

inductive Tr (α : Type) | c (a : α) | n (l : Tr α) (v : α) (r : Tr α)
def Tr.get {α : Type} : Pth → Tr α → α
  | _, .c a => a
  | .z, .n _ v _ => v
  | .l p, .n l _ _ => Tr.get p l
  | .r p, .n _ _ r => Tr.get p r
def Tr.set {α : Type} (x : α) : Pth → Tr α → Tr α
  | .z, .c a => .n (.c a) x (.c a)
  | .z, .n l _ r => .n l x r
  | .l p, .c a => .n (Tr.set x p (.c a)) a (.c a)
  | .l p, .n l v r => .n (Tr.set x p l) v r
  | .r p, .c a => .n (.c a) a (Tr.set x p (.c a))
  | .r p, .n l v r => .n l v (Tr.set x p r)
theorem Tr.get_set {α : Type} (x : α) : ∀ (p : Pth) (t : Tr α), (t.set x p).get p = x
  | .z, .c _ => rfl
  | .z, .n .. => rfl
  | .l p, .c a => Tr.get_set x p (.c a)
  | .l p, .n l _ _ => Tr.get_set x p l
  | .r p, .c a => Tr.get_set x p (.c a)
  | .r p, .n _ _ r => Tr.get_set x p r
theorem Tr.get_c {α : Type} (a : α) : ∀ (p : Pth), (Tr.c a).get p = a
  | .z => rfl
  | .l _ => rfl
  | .r _ => rfl
theorem Tr.get_set_ne {α : Type} (x : α) : ∀ (p q : Pth) (t : Tr α), q ≠ p → (t.set x p).get q = t.get q
  | .z, .z, _, h => absurd rfl h
  | .z, .l q, .c a, _ => Tr.get_c a q
  | .z, .r q, .c a, _ => Tr.get_c a q
  | .z, .l _, .n .., _ => rfl
  | .z, .r _, .n .., _ => rfl
  | .l _, .z, .c _, _ => rfl
  | .l _, .z, .n .., _ => rfl
  | .l p, .l q, .c a, h => (Tr.get_set_ne x p q (.c a) (fun e => h (e ▸ rfl))).trans (Tr.get_c a q)
  | .l p, .l q, .n l _ _, h => Tr.get_set_ne x p q l (fun e => h (e ▸ rfl))
  | .l _, .r q, .c a, _ => Tr.get_c a q
  | .l _, .r _, .n .., _ => rfl
  | .r _, .z, .c _, _ => rfl
  | .r _, .z, .n .., _ => rfl
  | .r p, .r q, .c a, h => (Tr.get_set_ne x p q (.c a) (fun e => h (e ▸ rfl))).trans (Tr.get_c a q)
  | .r p, .r q, .n _ _ r, h => Tr.get_set_ne x p q r (fun e => h (e ▸ rfl))
  | .r _, .l q, .c a, _ => Tr.get_c a q
  | .r _, .l _, .n .., _ => rfl
def unp : Pth → Nat
  | .z => 0
  | .l p => 2 * unp p + 1
  | .r p => 2 * unp p + 2
theorem unp_pthF : ∀ (f n : Nat), n < 2 ^ f → unp (pthF f n) = n
  | 0, n, h => by simp only [pthF, unp]; omega
  | f + 1, 0, _ => rfl
  | f + 1, m + 1, h => by
    have ih := unp_pthF f (m / 2) (by rw [Nat.pow_succ] at h; omega)
    simp only [pthF]
    split
    · simp only [unp, ih]; omega
    · rename_i hne
      have : m % 2 ≠ 0 := hne
      simp only [unp, ih]; omega
theorem pth_inj {i j : Nat} (hi : i < 2 ^ 40) (hj : j < 2 ^ 40) (h : pth i = pth j) : i = j := by
  rw [← unp_pthF 40 i hi, ← unp_pthF 40 j hj]
  exact congrArg unp h

structure KB where
  t : Tr Value
  len : Nat
  es : Nat
  exact : Bool
def gzV (t : Tr Value) (k : Value → Prop) : Prop := Tr.rec (motive := fun _ => Prop) k (fun _ v _ _ _ => k v) t
def glV (_ : Pth) (ih : Tr Value → (Value → Prop) → Prop) (t : Tr Value) (k : Value → Prop) : Prop := Tr.rec (motive := fun _ => Prop) k (fun l _ _ _ _ => ih l k) t
def grV (_ : Pth) (ih : Tr Value → (Value → Prop) → Prop) (t : Tr Value) (k : Value → Prop) : Prop := Tr.rec (motive := fun _ => Prop) k (fun _ _ r _ _ => ih r k) t
def getV (p : Pth) : Tr Value → (Value → Prop) → Prop := Pth.rec (motive := fun _ => Tr Value → (Value → Prop) → Prop) gzV glV grV p
def szV (x : Value) (t : Tr Value) (k : Tr Value → Prop) : Prop := Tr.rec (motive := fun _ => Prop) (fun a => k (.n (.c a) x (.c a))) (fun l _ r _ _ => k (.n l x r)) t
def slV (_ : Pth) (ih : Value → Tr Value → (Tr Value → Prop) → Prop) (x : Value) (t : Tr Value) (k : Tr Value → Prop) : Prop := Tr.rec (motive := fun _ => Prop) (fun a => ih x (.c a) (fun l => k (.n l a (.c a)))) (fun l v r _ _ => ih x l (fun l => k (.n l v r))) t
def srV (_ : Pth) (ih : Value → Tr Value → (Tr Value → Prop) → Prop) (x : Value) (t : Tr Value) (k : Tr Value → Prop) : Prop := Tr.rec (motive := fun _ => Prop) (fun a => ih x (.c a) (fun r => k (.n (.c a) a r))) (fun l v r _ _ => ih x r (fun r => k (.n l v r))) t
def setV (x : Value) (p : Pth) (t : Tr Value) (k : Tr Value → Prop) : Prop := Pth.rec (motive := fun _ => Value → Tr Value → (Tr Value → Prop) → Prop) szV slV srV p x t k
theorem getV_iff : ∀ (p : Pth) (t : Tr Value) (k : Value → Prop), getV p t k ↔ k (t.get p)
  | p, .c a, k => by rw [Tr.get_c]; cases p <;> exact Iff.rfl
  | .z, .n .., _ => Iff.rfl
  | .l p, .n l _ _, k => getV_iff p l k
  | .r p, .n _ _ r, k => getV_iff p r k
theorem setV_iff (x : Value) : ∀ (p : Pth) (t : Tr Value) (k : Tr Value → Prop), setV x p t k ↔ k (t.set x p)
  | .z, .c _, _ => Iff.rfl
  | .z, .n .., _ => Iff.rfl
  | .l p, .c a, k => setV_iff x p (.c a) (fun l => k (.n l a (.c a)))
  | .l p, .n l v r, k => setV_iff x p l (fun l => k (.n l v r))
  | .r p, .c a, k => setV_iff x p (.c a) (fun r => k (.n (.c a) a r))
  | .r p, .n l v r, k => setV_iff x p r (fun r => k (.n l v r))
def gzB (t : Tr (Option KB)) (k : (Option KB) → Prop) : Prop := Tr.rec (motive := fun _ => Prop) k (fun _ v _ _ _ => k v) t
def glB (_ : Pth) (ih : Tr (Option KB) → ((Option KB) → Prop) → Prop) (t : Tr (Option KB)) (k : (Option KB) → Prop) : Prop := Tr.rec (motive := fun _ => Prop) k (fun l _ _ _ _ => ih l k) t
def grB (_ : Pth) (ih : Tr (Option KB) → ((Option KB) → Prop) → Prop) (t : Tr (Option KB)) (k : (Option KB) → Prop) : Prop := Tr.rec (motive := fun _ => Prop) k (fun _ _ r _ _ => ih r k) t
def getB (p : Pth) : Tr (Option KB) → ((Option KB) → Prop) → Prop := Pth.rec (motive := fun _ => Tr (Option KB) → ((Option KB) → Prop) → Prop) gzB glB grB p
def szB (x : (Option KB)) (t : Tr (Option KB)) (k : Tr (Option KB) → Prop) : Prop := Tr.rec (motive := fun _ => Prop) (fun a => k (.n (.c a) x (.c a))) (fun l _ r _ _ => k (.n l x r)) t
def slB (_ : Pth) (ih : (Option KB) → Tr (Option KB) → (Tr (Option KB) → Prop) → Prop) (x : (Option KB)) (t : Tr (Option KB)) (k : Tr (Option KB) → Prop) : Prop := Tr.rec (motive := fun _ => Prop) (fun a => ih x (.c a) (fun l => k (.n l a (.c a)))) (fun l v r _ _ => ih x l (fun l => k (.n l v r))) t
def srB (_ : Pth) (ih : (Option KB) → Tr (Option KB) → (Tr (Option KB) → Prop) → Prop) (x : (Option KB)) (t : Tr (Option KB)) (k : Tr (Option KB) → Prop) : Prop := Tr.rec (motive := fun _ => Prop) (fun a => ih x (.c a) (fun r => k (.n (.c a) a r))) (fun l v r _ _ => ih x r (fun r => k (.n l v r))) t
def setB (x : (Option KB)) (p : Pth) (t : Tr (Option KB)) (k : Tr (Option KB) → Prop) : Prop := Pth.rec (motive := fun _ => (Option KB) → Tr (Option KB) → (Tr (Option KB) → Prop) → Prop) szB slB srB p x t k
theorem getB_iff : ∀ (p : Pth) (t : Tr (Option KB)) (k : (Option KB) → Prop), getB p t k ↔ k (t.get p)
  | p, .c a, k => by rw [Tr.get_c]; cases p <;> exact Iff.rfl
  | .z, .n .., _ => Iff.rfl
  | .l p, .n l _ _, k => getB_iff p l k
  | .r p, .n _ _ r, k => getB_iff p r k
theorem setB_iff (x : (Option KB)) : ∀ (p : Pth) (t : Tr (Option KB)) (k : Tr (Option KB) → Prop), setB x p t k ↔ k (t.set x p)
  | .z, .c _, _ => Iff.rfl
  | .z, .n .., _ => Iff.rfl
  | .l p, .c a, k => setB_iff x p (.c a) (fun l => k (.n l a (.c a)))
  | .l p, .n l v r, k => setB_iff x p l (fun l => k (.n l v r))
  | .r p, .c a, k => setB_iff x p (.c a) (fun r => k (.n (.c a) a r))
  | .r p, .n l v r, k => setB_iff x p r (fun r => k (.n l v r))
end Go.Mach.J