/- Part of the proof. No condition. -/
import Derived.Test.YtpigepmgheabhaaGreatDoorYKept
namespace Go.Mach.J
open Go Go.Mach
inductive D
 | d0|d1|d2|d3|d4|d5|d6|d7|d8|d9|d10|d11|d12|d13|d14|d15
structure N16 (α:Type) where
 (a0 a1 a2 a3 a4 a5 a6 a7 a8 a9 a10 a11 a12 a13 a14 a15:α)
def N16.all {α:Type}(a:α):N16 α:=⟨a,a,a,a,a,a,a,a,a,a,a,a,a,a,a,a⟩
def g0V (t:N16 Value)(k:Value->Prop):Prop:=N16.rec (motive:=fun _=>Prop) (fun a _ _ _ _ _ _ _ _ _ _ _ _ _ _ _=>k a) t
def g1V (t:N16 Value)(k:Value->Prop):Prop:=N16.rec (motive:=fun _=>Prop) (fun _ a _ _ _ _ _ _ _ _ _ _ _ _ _ _=>k a) t
def g2V (t:N16 Value)(k:Value->Prop):Prop:=N16.rec (motive:=fun _=>Prop) (fun _ _ a _ _ _ _ _ _ _ _ _ _ _ _ _=>k a) t
def g3V (t:N16 Value)(k:Value->Prop):Prop:=N16.rec (motive:=fun _=>Prop) (fun _ _ _ a _ _ _ _ _ _ _ _ _ _ _ _=>k a) t
def g4V (t:N16 Value)(k:Value->Prop):Prop:=N16.rec (motive:=fun _=>Prop) (fun _ _ _ _ a _ _ _ _ _ _ _ _ _ _ _=>k a) t
def g5V (t:N16 Value)(k:Value->Prop):Prop:=N16.rec (motive:=fun _=>Prop) (fun _ _ _ _ _ a _ _ _ _ _ _ _ _ _ _=>k a) t
def g6V (t:N16 Value)(k:Value->Prop):Prop:=N16.rec (motive:=fun _=>Prop) (fun _ _ _ _ _ _ a _ _ _ _ _ _ _ _ _=>k a) t
def g7V (t:N16 Value)(k:Value->Prop):Prop:=N16.rec (motive:=fun _=>Prop) (fun _ _ _ _ _ _ _ a _ _ _ _ _ _ _ _=>k a) t
def g8V (t:N16 Value)(k:Value->Prop):Prop:=N16.rec (motive:=fun _=>Prop) (fun _ _ _ _ _ _ _ _ a _ _ _ _ _ _ _=>k a) t
def g9V (t:N16 Value)(k:Value->Prop):Prop:=N16.rec (motive:=fun _=>Prop) (fun _ _ _ _ _ _ _ _ _ a _ _ _ _ _ _=>k a) t
def aGy (t:N16 Value)(k:Value->Prop):Prop:=N16.rec (motive:=fun _=>Prop) (fun _ _ _ _ _ _ _ _ _ _ a _ _ _ _ _=>k a) t
def aHF (t:N16 Value)(k:Value->Prop):Prop:=N16.rec (motive:=fun _=>Prop) (fun _ _ _ _ _ _ _ _ _ _ _ a _ _ _ _=>k a) t
def aHD (t:N16 Value)(k:Value->Prop):Prop:=N16.rec (motive:=fun _=>Prop) (fun _ _ _ _ _ _ _ _ _ _ _ _ a _ _ _=>k a) t
def aGu (t:N16 Value)(k:Value->Prop):Prop:=N16.rec (motive:=fun _=>Prop) (fun _ _ _ _ _ _ _ _ _ _ _ _ _ a _ _=>k a) t
def aHH (t:N16 Value)(k:Value->Prop):Prop:=N16.rec (motive:=fun _=>Prop) (fun _ _ _ _ _ _ _ _ _ _ _ _ _ _ a _=>k a) t
def aGi (t:N16 Value)(k:Value->Prop):Prop:=N16.rec (motive:=fun _=>Prop) (fun _ _ _ _ _ _ _ _ _ _ _ _ _ _ _ a=>k a) t
def p0V (x:Value)(t:N16 Value)(k:N16 Value->Prop):Prop:=N16.rec (motive:=fun _=>Prop) (fun _ a1 a2 a3 a4 a5 a6 a7 a8 a9 a10 a11 a12 a13 a14 a15=>k ⟨x,a1,a2,a3,a4,a5,a6,a7,a8,a9,a10,a11,a12,a13,a14,a15⟩) t
def p1V (x:Value)(t:N16 Value)(k:N16 Value->Prop):Prop:=N16.rec (motive:=fun _=>Prop) (fun a0 _ a2 a3 a4 a5 a6 a7 a8 a9 a10 a11 a12 a13 a14 a15=>k ⟨a0,x,a2,a3,a4,a5,a6,a7,a8,a9,a10,a11,a12,a13,a14,a15⟩) t
def p2V (x:Value)(t:N16 Value)(k:N16 Value->Prop):Prop:=N16.rec (motive:=fun _=>Prop) (fun a0 a1 _ a3 a4 a5 a6 a7 a8 a9 a10 a11 a12 a13 a14 a15=>k ⟨a0,a1,x,a3,a4,a5,a6,a7,a8,a9,a10,a11,a12,a13,a14,a15⟩) t
def p3V (x:Value)(t:N16 Value)(k:N16 Value->Prop):Prop:=N16.rec (motive:=fun _=>Prop) (fun a0 a1 a2 _ a4 a5 a6 a7 a8 a9 a10 a11 a12 a13 a14 a15=>k ⟨a0,a1,a2,x,a4,a5,a6,a7,a8,a9,a10,a11,a12,a13,a14,a15⟩) t
def p4V (x:Value)(t:N16 Value)(k:N16 Value->Prop):Prop:=N16.rec (motive:=fun _=>Prop) (fun a0 a1 a2 a3 _ a5 a6 a7 a8 a9 a10 a11 a12 a13 a14 a15=>k ⟨a0,a1,a2,a3,x,a5,a6,a7,a8,a9,a10,a11,a12,a13,a14,a15⟩) t
def p5V (x:Value)(t:N16 Value)(k:N16 Value->Prop):Prop:=N16.rec (motive:=fun _=>Prop) (fun a0 a1 a2 a3 a4 _ a6 a7 a8 a9 a10 a11 a12 a13 a14 a15=>k ⟨a0,a1,a2,a3,a4,x,a6,a7,a8,a9,a10,a11,a12,a13,a14,a15⟩) t
def p6V (x:Value)(t:N16 Value)(k:N16 Value->Prop):Prop:=N16.rec (motive:=fun _=>Prop) (fun a0 a1 a2 a3 a4 a5 _ a7 a8 a9 a10 a11 a12 a13 a14 a15=>k ⟨a0,a1,a2,a3,a4,a5,x,a7,a8,a9,a10,a11,a12,a13,a14,a15⟩) t
def p7V (x:Value)(t:N16 Value)(k:N16 Value->Prop):Prop:=N16.rec (motive:=fun _=>Prop) (fun a0 a1 a2 a3 a4 a5 a6 _ a8 a9 a10 a11 a12 a13 a14 a15=>k ⟨a0,a1,a2,a3,a4,a5,a6,x,a8,a9,a10,a11,a12,a13,a14,a15⟩) t
def p8V (x:Value)(t:N16 Value)(k:N16 Value->Prop):Prop:=N16.rec (motive:=fun _=>Prop) (fun a0 a1 a2 a3 a4 a5 a6 a7 _ a9 a10 a11 a12 a13 a14 a15=>k ⟨a0,a1,a2,a3,a4,a5,a6,a7,x,a9,a10,a11,a12,a13,a14,a15⟩) t
def p9V (x:Value)(t:N16 Value)(k:N16 Value->Prop):Prop:=N16.rec (motive:=fun _=>Prop) (fun a0 a1 a2 a3 a4 a5 a6 a7 a8 _ a10 a11 a12 a13 a14 a15=>k ⟨a0,a1,a2,a3,a4,a5,a6,a7,a8,x,a10,a11,a12,a13,a14,a15⟩) t
def aGv (x:Value)(t:N16 Value)(k:N16 Value->Prop):Prop:=N16.rec (motive:=fun _=>Prop) (fun a0 a1 a2 a3 a4 a5 a6 a7 a8 a9 _ a11 a12 a13 a14 a15=>k ⟨a0,a1,a2,a3,a4,a5,a6,a7,a8,a9,x,a11,a12,a13,a14,a15⟩) t
def aG2 (x:Value)(t:N16 Value)(k:N16 Value->Prop):Prop:=N16.rec (motive:=fun _=>Prop) (fun a0 a1 a2 a3 a4 a5 a6 a7 a8 a9 a10 _ a12 a13 a14 a15=>k ⟨a0,a1,a2,a3,a4,a5,a6,a7,a8,a9,a10,x,a12,a13,a14,a15⟩) t
def aG0 (x:Value)(t:N16 Value)(k:N16 Value->Prop):Prop:=N16.rec (motive:=fun _=>Prop) (fun a0 a1 a2 a3 a4 a5 a6 a7 a8 a9 a10 a11 _ a13 a14 a15=>k ⟨a0,a1,a2,a3,a4,a5,a6,a7,a8,a9,a10,a11,x,a13,a14,a15⟩) t
def aGe (x:Value)(t:N16 Value)(k:N16 Value->Prop):Prop:=N16.rec (motive:=fun _=>Prop) (fun a0 a1 a2 a3 a4 a5 a6 a7 a8 a9 a10 a11 a12 _ a14 a15=>k ⟨a0,a1,a2,a3,a4,a5,a6,a7,a8,a9,a10,a11,a12,x,a14,a15⟩) t
def aH5 (x:Value)(t:N16 Value)(k:N16 Value->Prop):Prop:=N16.rec (motive:=fun _=>Prop) (fun a0 a1 a2 a3 a4 a5 a6 a7 a8 a9 a10 a11 a12 a13 _ a15=>k ⟨a0,a1,a2,a3,a4,a5,a6,a7,a8,a9,a10,a11,a12,a13,x,a15⟩) t
def aGc (x:Value)(t:N16 Value)(k:N16 Value->Prop):Prop:=N16.rec (motive:=fun _=>Prop) (fun a0 a1 a2 a3 a4 a5 a6 a7 a8 a9 a10 a11 a12 a13 a14 _=>k ⟨a0,a1,a2,a3,a4,a5,a6,a7,a8,a9,a10,a11,a12,a13,a14,x⟩) t
def aDI (d:D):N16 Value->(Value->Prop)->Prop:=D.rec (motive:=fun _=>N16 Value->(Value->Prop)->Prop) g0V g1V g2V g3V g4V g5V g6V g7V g8V g9V aGy aHF aHD aGu aHH aGi d
def aD8 (d:D):Value->N16 Value->(N16 Value->Prop)->Prop:=D.rec (motive:=fun _=>Value->N16 Value->(N16 Value->Prop)->Prop) p0V p1V p2V p3V p4V p5V p6V p7V p8V p9V aGv aG2 aG0 aGe aH5 aGc d
def g0T (t:N16 (N16 Value))(k:(N16 Value)->Prop):Prop:=N16.rec (motive:=fun _=>Prop) (fun a _ _ _ _ _ _ _ _ _ _ _ _ _ _ _=>k a) t
def g1T (t:N16 (N16 Value))(k:(N16 Value)->Prop):Prop:=N16.rec (motive:=fun _=>Prop) (fun _ a _ _ _ _ _ _ _ _ _ _ _ _ _ _=>k a) t
def g2T (t:N16 (N16 Value))(k:(N16 Value)->Prop):Prop:=N16.rec (motive:=fun _=>Prop) (fun _ _ a _ _ _ _ _ _ _ _ _ _ _ _ _=>k a) t
def g3T (t:N16 (N16 Value))(k:(N16 Value)->Prop):Prop:=N16.rec (motive:=fun _=>Prop) (fun _ _ _ a _ _ _ _ _ _ _ _ _ _ _ _=>k a) t
def g4T (t:N16 (N16 Value))(k:(N16 Value)->Prop):Prop:=N16.rec (motive:=fun _=>Prop) (fun _ _ _ _ a _ _ _ _ _ _ _ _ _ _ _=>k a) t
def g5T (t:N16 (N16 Value))(k:(N16 Value)->Prop):Prop:=N16.rec (motive:=fun _=>Prop) (fun _ _ _ _ _ a _ _ _ _ _ _ _ _ _ _=>k a) t
def g6T (t:N16 (N16 Value))(k:(N16 Value)->Prop):Prop:=N16.rec (motive:=fun _=>Prop) (fun _ _ _ _ _ _ a _ _ _ _ _ _ _ _ _=>k a) t
def g7T (t:N16 (N16 Value))(k:(N16 Value)->Prop):Prop:=N16.rec (motive:=fun _=>Prop) (fun _ _ _ _ _ _ _ a _ _ _ _ _ _ _ _=>k a) t
def g8T (t:N16 (N16 Value))(k:(N16 Value)->Prop):Prop:=N16.rec (motive:=fun _=>Prop) (fun _ _ _ _ _ _ _ _ a _ _ _ _ _ _ _=>k a) t
def g9T (t:N16 (N16 Value))(k:(N16 Value)->Prop):Prop:=N16.rec (motive:=fun _=>Prop) (fun _ _ _ _ _ _ _ _ _ a _ _ _ _ _ _=>k a) t
def aH6 (t:N16 (N16 Value))(k:(N16 Value)->Prop):Prop:=N16.rec (motive:=fun _=>Prop) (fun _ _ _ _ _ _ _ _ _ _ a _ _ _ _ _=>k a) t
def aGg (t:N16 (N16 Value))(k:(N16 Value)->Prop):Prop:=N16.rec (motive:=fun _=>Prop) (fun _ _ _ _ _ _ _ _ _ _ _ a _ _ _ _=>k a) t
def aG7 (t:N16 (N16 Value))(k:(N16 Value)->Prop):Prop:=N16.rec (motive:=fun _=>Prop) (fun _ _ _ _ _ _ _ _ _ _ _ _ a _ _ _=>k a) t
def aGd (t:N16 (N16 Value))(k:(N16 Value)->Prop):Prop:=N16.rec (motive:=fun _=>Prop) (fun _ _ _ _ _ _ _ _ _ _ _ _ _ a _ _=>k a) t
def aH0 (t:N16 (N16 Value))(k:(N16 Value)->Prop):Prop:=N16.rec (motive:=fun _=>Prop) (fun _ _ _ _ _ _ _ _ _ _ _ _ _ _ a _=>k a) t
def aHY (t:N16 (N16 Value))(k:(N16 Value)->Prop):Prop:=N16.rec (motive:=fun _=>Prop) (fun _ _ _ _ _ _ _ _ _ _ _ _ _ _ _ a=>k a) t
def p0T (x:(N16 Value))(t:N16 (N16 Value))(k:N16 (N16 Value)->Prop):Prop:=N16.rec (motive:=fun _=>Prop) (fun _ a1 a2 a3 a4 a5 a6 a7 a8 a9 a10 a11 a12 a13 a14 a15=>k ⟨x,a1,a2,a3,a4,a5,a6,a7,a8,a9,a10,a11,a12,a13,a14,a15⟩) t
def p1T (x:(N16 Value))(t:N16 (N16 Value))(k:N16 (N16 Value)->Prop):Prop:=N16.rec (motive:=fun _=>Prop) (fun a0 _ a2 a3 a4 a5 a6 a7 a8 a9 a10 a11 a12 a13 a14 a15=>k ⟨a0,x,a2,a3,a4,a5,a6,a7,a8,a9,a10,a11,a12,a13,a14,a15⟩) t
def p2T (x:(N16 Value))(t:N16 (N16 Value))(k:N16 (N16 Value)->Prop):Prop:=N16.rec (motive:=fun _=>Prop) (fun a0 a1 _ a3 a4 a5 a6 a7 a8 a9 a10 a11 a12 a13 a14 a15=>k ⟨a0,a1,x,a3,a4,a5,a6,a7,a8,a9,a10,a11,a12,a13,a14,a15⟩) t
def p3T (x:(N16 Value))(t:N16 (N16 Value))(k:N16 (N16 Value)->Prop):Prop:=N16.rec (motive:=fun _=>Prop) (fun a0 a1 a2 _ a4 a5 a6 a7 a8 a9 a10 a11 a12 a13 a14 a15=>k ⟨a0,a1,a2,x,a4,a5,a6,a7,a8,a9,a10,a11,a12,a13,a14,a15⟩) t
def p4T (x:(N16 Value))(t:N16 (N16 Value))(k:N16 (N16 Value)->Prop):Prop:=N16.rec (motive:=fun _=>Prop) (fun a0 a1 a2 a3 _ a5 a6 a7 a8 a9 a10 a11 a12 a13 a14 a15=>k ⟨a0,a1,a2,a3,x,a5,a6,a7,a8,a9,a10,a11,a12,a13,a14,a15⟩) t
def p5T (x:(N16 Value))(t:N16 (N16 Value))(k:N16 (N16 Value)->Prop):Prop:=N16.rec (motive:=fun _=>Prop) (fun a0 a1 a2 a3 a4 _ a6 a7 a8 a9 a10 a11 a12 a13 a14 a15=>k ⟨a0,a1,a2,a3,a4,x,a6,a7,a8,a9,a10,a11,a12,a13,a14,a15⟩) t
def p6T (x:(N16 Value))(t:N16 (N16 Value))(k:N16 (N16 Value)->Prop):Prop:=N16.rec (motive:=fun _=>Prop) (fun a0 a1 a2 a3 a4 a5 _ a7 a8 a9 a10 a11 a12 a13 a14 a15=>k ⟨a0,a1,a2,a3,a4,a5,x,a7,a8,a9,a10,a11,a12,a13,a14,a15⟩) t
def p7T (x:(N16 Value))(t:N16 (N16 Value))(k:N16 (N16 Value)->Prop):Prop:=N16.rec (motive:=fun _=>Prop) (fun a0 a1 a2 a3 a4 a5 a6 _ a8 a9 a10 a11 a12 a13 a14 a15=>k ⟨a0,a1,a2,a3,a4,a5,a6,x,a8,a9,a10,a11,a12,a13,a14,a15⟩) t
def p8T (x:(N16 Value))(t:N16 (N16 Value))(k:N16 (N16 Value)->Prop):Prop:=N16.rec (motive:=fun _=>Prop) (fun a0 a1 a2 a3 a4 a5 a6 a7 _ a9 a10 a11 a12 a13 a14 a15=>k ⟨a0,a1,a2,a3,a4,a5,a6,a7,x,a9,a10,a11,a12,a13,a14,a15⟩) t
def p9T (x:(N16 Value))(t:N16 (N16 Value))(k:N16 (N16 Value)->Prop):Prop:=N16.rec (motive:=fun _=>Prop) (fun a0 a1 a2 a3 a4 a5 a6 a7 a8 _ a10 a11 a12 a13 a14 a15=>k ⟨a0,a1,a2,a3,a4,a5,a6,a7,a8,x,a10,a11,a12,a13,a14,a15⟩) t
def aHK (x:(N16 Value))(t:N16 (N16 Value))(k:N16 (N16 Value)->Prop):Prop:=N16.rec (motive:=fun _=>Prop) (fun a0 a1 a2 a3 a4 a5 a6 a7 a8 a9 _ a11 a12 a13 a14 a15=>k ⟨a0,a1,a2,a3,a4,a5,a6,a7,a8,a9,x,a11,a12,a13,a14,a15⟩) t
def aHT (x:(N16 Value))(t:N16 (N16 Value))(k:N16 (N16 Value)->Prop):Prop:=N16.rec (motive:=fun _=>Prop) (fun a0 a1 a2 a3 a4 a5 a6 a7 a8 a9 a10 _ a12 a13 a14 a15=>k ⟨a0,a1,a2,a3,a4,a5,a6,a7,a8,a9,a10,x,a12,a13,a14,a15⟩) t
def aHh (x:(N16 Value))(t:N16 (N16 Value))(k:N16 (N16 Value)->Prop):Prop:=N16.rec (motive:=fun _=>Prop) (fun a0 a1 a2 a3 a4 a5 a6 a7 a8 a9 a10 a11 _ a13 a14 a15=>k ⟨a0,a1,a2,a3,a4,a5,a6,a7,a8,a9,a10,a11,x,a13,a14,a15⟩) t
def aGr (x:(N16 Value))(t:N16 (N16 Value))(k:N16 (N16 Value)->Prop):Prop:=N16.rec (motive:=fun _=>Prop) (fun a0 a1 a2 a3 a4 a5 a6 a7 a8 a9 a10 a11 a12 _ a14 a15=>k ⟨a0,a1,a2,a3,a4,a5,a6,a7,a8,a9,a10,a11,a12,x,a14,a15⟩) t
def aH8 (x:(N16 Value))(t:N16 (N16 Value))(k:N16 (N16 Value)->Prop):Prop:=N16.rec (motive:=fun _=>Prop) (fun a0 a1 a2 a3 a4 a5 a6 a7 a8 a9 a10 a11 a12 a13 _ a15=>k ⟨a0,a1,a2,a3,a4,a5,a6,a7,a8,a9,a10,a11,a12,a13,x,a15⟩) t
def aGV (x:(N16 Value))(t:N16 (N16 Value))(k:N16 (N16 Value)->Prop):Prop:=N16.rec (motive:=fun _=>Prop) (fun a0 a1 a2 a3 a4 a5 a6 a7 a8 a9 a10 a11 a12 a13 a14 _=>k ⟨a0,a1,a2,a3,a4,a5,a6,a7,a8,a9,a10,a11,a12,a13,a14,x⟩) t
def aDg (d:D):N16 (N16 Value)->((N16 Value)->Prop)->Prop:=D.rec (motive:=fun _=>N16 (N16 Value)->((N16 Value)->Prop)->Prop) g0T g1T g2T g3T g4T g5T g6T g7T g8T g9T aH6 aGg aG7 aGd aH0 aHY d
def aBG (d:D):(N16 Value)->N16 (N16 Value)->(N16 (N16 Value)->Prop)->Prop:=D.rec (motive:=fun _=>(N16 Value)->N16 (N16 Value)->(N16 (N16 Value)->Prop)->Prop) p0T p1T p2T p3T p4T p5T p6T p7T p8T p9T aHK aHT aHh aGr aH8 aGV d
def N16.at {α:Type}(t:N16 α):D->α
 | .d0=>t.a0
 | .d1=>t.a1
 | .d2=>t.a2
 | .d3=>t.a3
 | .d4=>t.a4
 | .d5=>t.a5
 | .d6=>t.a6
 | .d7=>t.a7
 | .d8=>t.a8
 | .d9=>t.a9
 | .d10=>t.a10
 | .d11=>t.a11
 | .d12=>t.a12
 | .d13=>t.a13
 | .d14=>t.a14
 | .d15=>t.a15
def N16.wth {α:Type}(t:N16 α)(x:α):D->N16 α
 | .d0=>{ t with a0:=x }
 | .d1=>{ t with a1:=x }
 | .d2=>{ t with a2:=x }
 | .d3=>{ t with a3:=x }
 | .d4=>{ t with a4:=x }
 | .d5=>{ t with a5:=x }
 | .d6=>{ t with a6:=x }
 | .d7=>{ t with a7:=x }
 | .d8=>{ t with a8:=x }
 | .d9=>{ t with a9:=x }
 | .d10=>{ t with a10:=x }
 | .d11=>{ t with a11:=x }
 | .d12=>{ t with a12:=x }
 | .d13=>{ t with a13:=x }
 | .d14=>{ t with a14:=x }
 | .d15=>{ t with a15:=x }
theorem aBW (d:D)(t:N16 Value)(k:Value->Prop):aDI d t k ↔ k (t.at d):=by cases d <;> exact Iff.rfl
theorem aB6 (d:D)(x:Value)(t:N16 Value)(k:N16 Value->Prop):aD8 d x t k ↔ k (t.wth x d):=by cases d <;> exact Iff.rfl
theorem TC (d:D)(t:N16 (N16 Value))(k:N16 Value->Prop):aDg d t k ↔ k (t.at d):=by cases d <;> exact Iff.rfl
theorem aCG (d:D)(x:N16 Value)(t:N16 (N16 Value))(k:N16 (N16 Value)->Prop):aBG d x t k ↔ k (t.wth x d):=by cases d <;> exact Iff.rfl
theorem VD {α:Type}(d:D)(x:α)(t:N16 α):(t.wth x d).at d=x:=by cases d <;> rfl
theorem OB {α:Type}(d e:D)(x:α)(t:N16 α)(h:e≠d):(t.wth x d).at e=t.at e:=by
 cases d <;> cases e <;> first|rfl|exact absurd rfl h
theorem aCf {α:Type}(d:D)(x:α):(N16.all x).at d=x:=by cases d <;> rfl
def dig:Nat->D
 | 0 => .d0
 | 1 => .d1
 | 2 => .d2
 | 3 => .d3
 | 4 => .d4
 | 5 => .d5
 | 6 => .d6
 | 7 => .d7
 | 8 => .d8
 | 9 => .d9
 | 10 => .d10
 | 11 => .d11
 | 12 => .d12
 | 13 => .d13
 | 14 => .d14
 | _ => .d15
def und:D->Nat
 | .d0=>0
 | .d1=>1
 | .d2=>2
 | .d3=>3
 | .d4=>4
 | .d5=>5
 | .d6=>6
 | .d7=>7
 | .d8=>8
 | .d9=>9
 | .d10=>10
 | .d11=>11
 | .d12=>12
 | .d13=>13
 | .d14=>14
 | .d15=>15
theorem XW:∀ i,i<16->und (dig i)=i:=by decide
theorem YD {i j:Nat}(hi:i<16)(hj:j<16)(h:dig i=dig j):i=j:=by rw[<- XW i hi,<- XW j hj,h]
abbrev TT:=N16 (N16 Value)
def TT.get (t:TT)(i:Nat):Value:=(N16.at t (dig (i / 16))).at (dig (i%16))
def TT.set (t:TT)(i:Nat)(v:Value):TT:=N16.wth t ((N16.at t (dig (i / 16))).wth v (dig (i%16))) (dig (i / 16))
theorem TT.get_set (t:TT)(i j:Nat)(v:Value)(hi:i<256)(hj:j<256):(t.set i v).get j=if j=i then v else t.get j:=by
 unfold TT.get TT.set
 by_cases h:j=i
 ·subst h;rw[VD,VD,aA rfl]
 ·rw[aC h]
  by_cases h1:dig (j / 16)=dig (i / 16)
  ·rw[h1,VD,OB]
   intro h2
   have e1:=YD (by omega) (by omega) h1
   have e2:=YD (by omega) (by omega) h2
   omega
  ·rw[OB _ _ _ _ h1]
inductive Pth|z|l (p:Pth)|r (p:Pth)
def ZA:Nat->Nat->Pth
 | 0,_ => .z
 | f+1,n=>match n with
   | 0 => .z
   | m+1=>match m%2 with
     | 0 => .l (ZA f (m / 2))
     | _ => .r (ZA f (m / 2))
def pth (n:Nat):Pth:=ZA 40 n
inductive Tr (α:Type)|c (a:α)|n (l:Tr α) (v:α) (r:Tr α)
def Tr.get {α:Type}:Pth->Tr α->α
 | _,.c a=>a
 | .z,.n _ v _=>v
 | .l p,.n l _ _=>Tr.get p l
 | .r p,.n _ _ r=>Tr.get p r
def Tr.set {α:Type}(x:α):Pth->Tr α->Tr α
 | .z,.c a => .n (.c a) x (.c a)
 | .z,.n l _ r => .n l x r
 | .l p,.c a => .n (Tr.set x p (.c a)) a (.c a)
 | .l p,.n l v r => .n (Tr.set x p l) v r
 | .r p,.c a => .n (.c a) a (Tr.set x p (.c a))
 | .r p,.n l v r => .n l v (Tr.set x p r)
theorem Tr.get_set {α:Type}(x:α):∀ (p:Pth) (t:Tr α),(t.set x p).get p=x
 | .z,.c _=>rfl
 | .z,.n .. => rfl
 | .l p,.c a=>Tr.get_set x p (.c a)
 | .l p,.n l _ _=>Tr.get_set x p l
 | .r p,.c a=>Tr.get_set x p (.c a)
 | .r p,.n _ _ r=>Tr.get_set x p r
theorem Tr.get_c {α:Type}(a:α):∀ (p:Pth),(Tr.c a).get p=a
 | .z=>rfl
 | .l _=>rfl
 | .r _=>rfl
theorem Tr.get_set_ne {α:Type}(x:α):∀ (p q:Pth) (t:Tr α),q≠p->(t.set x p).get q=t.get q
 | .z,.z,_,h=>absurd rfl h
 | .z,.l q,.c a,_=>Tr.get_c a q
 | .z,.r q,.c a,_=>Tr.get_c a q
 | .z,.l _,.n ..,_=>rfl
 | .z,.r _,.n ..,_=>rfl
 | .l _,.z,.c _,_=>rfl
 | .l _,.z,.n ..,_=>rfl
 | .l p,.l q,.c a,h=>(Tr.get_set_ne x p q (.c a) (fun e=>h (e▸rfl))).trans (Tr.get_c a q)
 | .l p,.l q,.n l _ _,h=>Tr.get_set_ne x p q l (fun e=>h (e▸rfl))
 | .l _,.r q,.c a,_=>Tr.get_c a q
 | .l _,.r _,.n ..,_=>rfl
 | .r _,.z,.c _,_=>rfl
 | .r _,.z,.n ..,_=>rfl
 | .r p,.r q,.c a,h=>(Tr.get_set_ne x p q (.c a) (fun e=>h (e▸rfl))).trans (Tr.get_c a q)
 | .r p,.r q,.n _ _ r,h=>Tr.get_set_ne x p q r (fun e=>h (e▸rfl))
 | .r _,.l q,.c a,_=>Tr.get_c a q
 | .r _,.l _,.n ..,_=>rfl
def unp:Pth->Nat
 | .z=>0
 | .l p=>2*unp p+1
 | .r p=>2*unp p+2
theorem LN:∀ (f n:Nat),n<2 ^ f->unp (ZA f n)=n
 | 0,n,h=>by simp only[ZA,unp];omega
 | f+1,0,_=>rfl
 | f+1,m+1,h=>by
   have ih:=LN f (m / 2) (by rw[Nat.pow_succ]at h;omega)
   simp only[ZA]
   split
   ·simp only[unp,ih];omega
   ·rename_i hne
    have:m%2≠0:=hne
    simp only[unp,ih];omega
theorem aDh {i j:Nat}(hi:i<2 ^ 40)(hj:j<2 ^ 40)(h:pth i=pth j):i=j:=by
 rw[<- LN 40 i hi,<- LN 40 j hj]
 exact congrArg unp h
structure KB where
 t:Tr Value
 len:Nat
 es:Nat
 exact:Bool
def gzV (t:Tr Value)(k:Value->Prop):Prop:=Tr.rec (motive:=fun _=>Prop) k (fun _ v _ _ _=>k v) t
def glV (_:Pth)(ih:Tr Value->(Value->Prop)->Prop)(t:Tr Value)(k:Value->Prop):Prop:=Tr.rec (motive:=fun _=>Prop) k (fun l _ _ _ _=>ih l k) t
def grV (_:Pth)(ih:Tr Value->(Value->Prop)->Prop)(t:Tr Value)(k:Value->Prop):Prop:=Tr.rec (motive:=fun _=>Prop) k (fun _ _ r _ _=>ih r k) t
def aDe (p:Pth):Tr Value->(Value->Prop)->Prop:=Pth.rec (motive:=fun _=>Tr Value->(Value->Prop)->Prop) gzV glV grV p
def szV (x:Value)(t:Tr Value)(k:Tr Value->Prop):Prop:=Tr.rec (motive:=fun _=>Prop) (fun a=>k (.n (.c a) x (.c a))) (fun l _ r _ _=>k (.n l x r)) t
def slV (_:Pth)(ih:Value->Tr Value->(Tr Value->Prop)->Prop)(x:Value)(t:Tr Value)(k:Tr Value->Prop):Prop:=Tr.rec (motive:=fun _=>Prop) (fun a=>ih x (.c a) (fun l=>k (.n l a (.c a)))) (fun l v r _ _=>ih x l (fun l=>k (.n l v r))) t
def srV (_:Pth)(ih:Value->Tr Value->(Tr Value->Prop)->Prop)(x:Value)(t:Tr Value)(k:Tr Value->Prop):Prop:=Tr.rec (motive:=fun _=>Prop) (fun a=>ih x (.c a) (fun r=>k (.n (.c a) a r))) (fun l v r _ _=>ih x r (fun r=>k (.n l v r))) t
def aFN (x:Value)(p:Pth)(t:Tr Value)(k:Tr Value->Prop):Prop:=Pth.rec (motive:=fun _=>Value->Tr Value->(Tr Value->Prop)->Prop) szV slV srV p x t k
theorem C9:∀ (p:Pth) (t:Tr Value) (k:Value->Prop),aDe p t k ↔ k (t.get p)
 | p,.c a,k=>by rw[Tr.get_c];cases p <;> exact Iff.rfl
 | .z,.n ..,_=>Iff.rfl
 | .l p,.n l _ _,k=>C9 p l k
 | .r p,.n _ _ r,k=>C9 p r k
theorem xS (x:Value):∀ (p:Pth) (t:Tr Value) (k:Tr Value->Prop),aFN x p t k ↔ k (t.set x p)
 | .z,.c _,_=>Iff.rfl
 | .z,.n ..,_=>Iff.rfl
 | .l p,.c a,k=>xS x p (.c a) (fun l=>k (.n l a (.c a)))
 | .l p,.n l v r,k=>xS x p l (fun l=>k (.n l v r))
 | .r p,.c a,k=>xS x p (.c a) (fun r=>k (.n (.c a) a r))
 | .r p,.n l v r,k=>xS x p r (fun r=>k (.n l v r))
def gzB (t:Tr (Option KB))(k:(Option KB)->Prop):Prop:=Tr.rec (motive:=fun _=>Prop) k (fun _ v _ _ _=>k v) t
def glB (_:Pth)(ih:Tr (Option KB)->((Option KB)->Prop)->Prop)(t:Tr (Option KB))(k:(Option KB)->Prop):Prop:=Tr.rec (motive:=fun _=>Prop) k (fun l _ _ _ _=>ih l k) t
def grB (_:Pth)(ih:Tr (Option KB)->((Option KB)->Prop)->Prop)(t:Tr (Option KB))(k:(Option KB)->Prop):Prop:=Tr.rec (motive:=fun _=>Prop) k (fun _ _ r _ _=>ih r k) t
def aAW (p:Pth):Tr (Option KB)->((Option KB)->Prop)->Prop:=Pth.rec (motive:=fun _=>Tr (Option KB)->((Option KB)->Prop)->Prop) gzB glB grB p
def szB (x:(Option KB))(t:Tr (Option KB))(k:Tr (Option KB)->Prop):Prop:=Tr.rec (motive:=fun _=>Prop) (fun a=>k (.n (.c a) x (.c a))) (fun l _ r _ _=>k (.n l x r)) t
def slB (_:Pth)(ih:(Option KB)->Tr (Option KB)->(Tr (Option KB)->Prop)->Prop)(x:(Option KB))(t:Tr (Option KB))(k:Tr (Option KB)->Prop):Prop:=Tr.rec (motive:=fun _=>Prop) (fun a=>ih x (.c a) (fun l=>k (.n l a (.c a)))) (fun l v r _ _=>ih x l (fun l=>k (.n l v r))) t
def srB (_:Pth)(ih:(Option KB)->Tr (Option KB)->(Tr (Option KB)->Prop)->Prop)(x:(Option KB))(t:Tr (Option KB))(k:Tr (Option KB)->Prop):Prop:=Tr.rec (motive:=fun _=>Prop) (fun a=>ih x (.c a) (fun r=>k (.n (.c a) a r))) (fun l v r _ _=>ih x r (fun r=>k (.n l v r))) t
def aAH (x:(Option KB))(p:Pth)(t:Tr (Option KB))(k:Tr (Option KB)->Prop):Prop:=Pth.rec (motive:=fun _=>(Option KB)->Tr (Option KB)->(Tr (Option KB)->Prop)->Prop) szB slB srB p x t k
theorem wZ:∀ (p:Pth) (t:Tr (Option KB)) (k:(Option KB)->Prop),aAW p t k ↔ k (t.get p)
 | p,.c a,k=>by rw[Tr.get_c];cases p <;> exact Iff.rfl
 | .z,.n ..,_=>Iff.rfl
 | .l p,.n l _ _,k=>wZ p l k
 | .r p,.n _ _ r,k=>wZ p r k
theorem oW (x:(Option KB)):∀ (p:Pth) (t:Tr (Option KB)) (k:Tr (Option KB)->Prop),aAH x p t k ↔ k (t.set x p)
 | .z,.c _,_=>Iff.rfl
 | .z,.n ..,_=>Iff.rfl
 | .l p,.c a,k=>oW x p (.c a) (fun l=>k (.n l a (.c a)))
 | .l p,.n l v r,k=>oW x p l (fun l=>k (.n l v r))
 | .r p,.c a,k=>oW x p (.c a) (fun r=>k (.n (.c a) a r))
 | .r p,.n l v r,k=>oW x p r (fun r=>k (.n l v r))
end Go.Mach.J
