/- Plain texts of functions, as the value machine comes to them. No condition. -/
import Derived.Test.YteencpiamangfaaF4
import Derived.Test.YteencpiamangfaaProg
import Derived.KernelRfl
namespace Go.Proofs.Yteencpiamangfaa
open Go.Mach
set_option maxRecDepth 100000
set_option linter.unusedVariables false
def pedagoguelaw18_ForwardStreams_t (a0 : Int) (a1 : Int) (a2 : Int) (a3 : Int) (a4 : Int) (a5 : Int) (Q : Bool → Prop) : Prop :=
  ck (1000 ≠ (0 : Int)) (ck (1000 ≠ (0 : Int)) (ck (13 ≠ (0 : Int)) (ck (13 ≠ (0 : Int)) (ck (16 ≠ (0 : Int)) (ck (16 ≠ (0 : Int)) (forward_Stream (IntKind.i64.wrap ((IntKind.u64.wrap a0).tmod 1000)) (IntKind.i64.wrap ((IntKind.u64.wrap a2).tmod 13)) (IntKind.i64.wrap ((IntKind.u64.wrap a4).tmod 16)) (fun (r1 : Int) => forward_Stream (IntKind.i64.wrap ((IntKind.u64.wrap a1).tmod 1000)) (IntKind.i64.wrap ((IntKind.u64.wrap a3).tmod 13)) (IntKind.i64.wrap ((IntKind.u64.wrap a5).tmod 16)) (fun (r2 : Int) => jn (fun (v3 : Bool) => jn (fun (v6 : Bool) => Q v6) (fun J7 => if v3 = true then pedagoguelaw18_awake (fun (r8 : Bool) => J7 r8) else J7 false)) (fun J4 => if ((r1 == r2) == ((((IntKind.i64.wrap ((IntKind.u64.wrap a0).tmod 1000)) == (IntKind.i64.wrap ((IntKind.u64.wrap a1).tmod 1000))) && ((IntKind.i64.wrap ((IntKind.u64.wrap a2).tmod 13)) == (IntKind.i64.wrap ((IntKind.u64.wrap a3).tmod 13)))) && ((IntKind.i64.wrap ((IntKind.u64.wrap a4).tmod 16)) == (IntKind.i64.wrap ((IntKind.u64.wrap a5).tmod 16))))) = true then forward_Stream (-1) (IntKind.i64.wrap ((IntKind.u64.wrap a2).tmod 13)) (IntKind.i64.wrap ((IntKind.u64.wrap a4).tmod 16)) (fun (r5 : Int) => J4 (r5 == 0)) else J4 false)))))))))
structure pedagoguelaw18_ForwardStreams (a0 : Int) (a1 : Int) (a2 : Int) (a3 : Int) (a4 : Int) (a5 : Int) (Q : Bool → Prop) : Prop where
  it : pedagoguelaw18_ForwardStreams_t a0 a1 a2 a3 a4 a5 Q
noncomputable def pedagoguelaw18_ForwardStreams_ct : Tab := fun n => none
noncomputable def pedagoguelaw18_ForwardStreams_en : Go.Mach.Ends := fun n => match n with | 2 => some ([], [0, 1, 2, 3, 4, 5]) | 6 => some ([], [0, 1, 2, 3, 4, 5]) | 14 => some ([], [12]) | 15 => some ([], [12]) | _ => none
noncomputable def pedagoguelaw18_ForwardStreams_b : Code := Try.f5.body.getD .skip
theorem pedagoguelaw18_ForwardStreams_tab : TabOk Gpedagoguelaw18_awake pedagoguelaw18_ForwardStreams_ct pedagoguelaw18_ForwardStreams_en pedagoguelaw18_ForwardStreams_b := by
  intro n E hn f c hs x k h
  cases hn
def pedagoguelaw18_ForwardStreams_sh : List Sh := [.lf (.int .i64), .lf (.int .i64), .lf (.int .i64), .lf (.int .i64), .lf (.int .i64), .lf (.int .i64)]
def pedagoguelaw18_ForwardStreams_d (x : denS pedagoguelaw18_ForwardStreams_sh) (Q : List (Bool × List VV) → Prop) : Prop := pedagoguelaw18_ForwardStreams x.1 x.2.1 x.2.2.1 x.2.2.2.1 x.2.2.2.2.1 x.2.2.2.2.2.1 (fun (r : Bool) => Q (slotsA [(false, .bool)] [.n] (r, ())))
theorem pedagoguelaw18_ForwardStreams_snd (x : denS pedagoguelaw18_ForwardStreams_sh) (Q : List (Bool × List VV) → Prop) (h : pedagoguelaw18_ForwardStreams_d x Q) : Sound Try.prog 5 (packS pedagoguelaw18_ForwardStreams_sh x) Q :=
  vfun_told [.n] (G := Gpedagoguelaw18_awake) (ct := pedagoguelaw18_ForwardStreams_ct) (en := pedagoguelaw18_ForwardStreams_en) (fn := Try.f5) (cd := pedagoguelaw18_ForwardStreams_b) (rt := [(false, .bool)]) Try.func5 (by kernel_rfl) (by kernel_rfl) (Nat.le_of_ble_eq_true rfl) pedagoguelaw18_ForwardStreams_tab Opedagoguelaw18_awake_ok h.it (by kernel_rfl)
noncomputable def Opedagoguelaw18_ForwardStreams : FuncId → List VV → (List (Bool × List VV) → Prop) → Prop := fun f args Q => if f = 5 then unA pedagoguelaw18_ForwardStreams_sh args (fun x => pedagoguelaw18_ForwardStreams_d x Q) else Opedagoguelaw18_awake f args Q
theorem Opedagoguelaw18_ForwardStreams_ok : ∀ f args Q, Opedagoguelaw18_ForwardStreams f args Q → Sound Try.prog f args Q := tab_more Opedagoguelaw18_awake_ok (f0 := 5) pedagoguelaw18_ForwardStreams_sh (fun x Q => pedagoguelaw18_ForwardStreams_d x Q) pedagoguelaw18_ForwardStreams_snd
noncomputable def Gpedagoguelaw18_ForwardStreams : Cfg := ⟨Try.prog, tt, Opedagoguelaw18_ForwardStreams, fun _ _ _ => False⟩
end Go.Proofs.Yteencpiamangfaa
