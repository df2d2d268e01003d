/- The statement BackwardRuns: for every input that the row speaks of, the Go function returns true, and each argument reads afterwards as it read before. No condition beyond the row's own. -/
import Derived.Test.YtcfpfefadlnmcaaGreatRows
import Derived.Test.YtcfpfefadlnmcaaGreatZ40
import Derived.Test.YtcfpfefadlnmcaaGreatYVTold
import Derived.SizedLaws
import Derived.WalkKit
import Derived.ProofKit
import Derived.OpenShut
import Derived.ShutString
import Derived.ChangeOld
import Derived.Below
namespace Go.Proofs.YtcfpfefadlnmcaaGreat.backwardRuns
open Go.ChangeShapes Go.WideShapes Go.ChangeAt Go.RowKit
set_option linter.unusedVariables false
set_option maxRecDepth 100000
theorem aOt {w:World}{cs0:List Value}{z0:Go.Mach.Ty.den (.pair (.pair (.pair (.int .i64) (.pair (.int .i64) (.int .i64))) (.slc (.pair (.int .i64) (.pair (.int .i64) (.pair (.int .i64) (.pair (.int .i64) (.pair (.int .i64) (.pair (.int .i64) .bool)))))))) (.pair (.int .u64) (.pair (.slc (.int .i8)) (.pair (.int .i64) (.pair (.slc (.int .i8)) (.int .i64))))))}{u1:Value}{z1:List (Go.Mach.Ty.den (.int .i8))}{z2:Int}{z3:Int}{z4:Int}(t0:Go.Mach.ToldA w (.pair (.pair (.pair (.int .i64) (.pair (.int .i64) (.int .i64))) (.slc (.pair (.int .i64) (.pair (.int .i64) (.pair (.int .i64) (.pair (.int .i64) (.pair (.int .i64) (.pair (.int .i64) .bool)))))))) (.pair (.int .u64) (.pair (.slc (.int .i8)) (.pair (.int .i64) (.pair (.slc (.int .i8)) (.int .i64)))))) z0 cs0)(t1:Go.Mach.Told w (.int .i8) z1 u1)(w2:(Lit.int .i64 z2).wf=true)(w3:(Lit.int .u64 z3).wf=true)(w4:(Lit.int .i64 z4).wf=true) :
 Calls Tryz.prog 4 #[.agg cs0.toArray,u1,.int .i64 z2,.int .u64 z3,.int .i64 z4] w fun e w'=>e = .returned (.bool true)/\Below w.heap.size w w' :=
 Go.Mach.law_calls (avs:=[.agg cs0.toArray,u1,.int .i64 z2,.int .u64 z3,.int .i64 z4]) Go.Mach.extF_sound (by kernel_rfl)
   (zN ((z0.1.1.1,(z0.1.1.2.1,(z0.1.1.2.2,(z0.1.2,(z0.2.1,(z0.2.2.1,(z0.2.2.2.1,(z0.2.2.2.2.1,(z0.2.2.2.2.2,()))))))))),(z1,(z2,(z3,(z4,()))))) _ (aK9 (n:=z0) (l:=z1) (e:=z2) (seed:=z3) (st:=z4) (UE t0.fits).1 (UE t0.fits).2.1 (UE t0.fits).2.2.1 (UE t0.fits).2.2.2 (aHs t1.fits) (Go.Mach.law_true rfl)))
   (.cons (⟨_,rfl,t0.rl⟩) (.cons (t1.rl) (.cons (⟨rfl,rfl⟩) (.cons (⟨rfl,rfl⟩) (.cons (⟨rfl,rfl⟩) .nil)))))
   (by
    intro x hx
    simp only[List.mem_cons,List.not_mem_nil,or_false]at hx
    rcases hx with rfl|rfl|rfl|rfl|rfl
    ·exact t0.rel
    ·exact t1.rel
    ·exact .int _ _
    ·exact .int _ _
    ·exact .int _ _)
theorem own:ownKnob Tryz.prog.godebug=none:=by kernel_rfl
theorem aHe:laidOutB Tryz.prog=true:=by kernel_rfl
theorem aNV (os:Os)(started:os.Started)(H:Type)(enc:TypeId×Value->H) :
 ReturnsInHanded {} Tryz.checked os 4 .any (Rows.backwardRunsSpec.pre6 enc Tryz.prog Tryz.f4 Rows.backwardRunsRow.domain false) (Rows.backwardRunsSpec.post enc Tryz.prog Tryz.f4 false true false false):=by
 refine returnsInHanded_of_change_sized (C:=Tryz.checked) own started (by kernel_rfl) Tryz.func4
  (ChangeSpec.witness6 (enc:=enc) (C:=Tryz.checked) false ⟨#[],#[.agg #[.int .i64 0,.int .i64 0,.int .i64 0,.slice none 0 0,.int .u64 0,.slice none 0 0,.int .i64 0,.slice none 0 0,.int .i64 0],.slice none 0 0,.int .i64 0,.int .u64 0,.int .i64 0],[]⟩ 8 (by kernel_rfl) (by kernel_rfl) (by kernel_rfl) (by kernel_rfl)) ?_
 intro W base args ds gs before hval0 hW hcnd hsz _
 have hval:∀ (j:Nat) t v,Tryz.f4.params[j]? = some t->args[j]? = some v->Value.okWide Tryz.prog W .any base t v:=hval0
 have hW':=hW
 obtain⟨p,q,hA0,hV,rfl,hfz,hnd⟩:=hW
 have hA:DataW.TrodAll enc Tryz.prog W 0 (fun _=>true) true Tryz.f4.params.toList args.toList ds p:=hA0
 rw[Tryz.params4]at hA hval
 obtain⟨v0,vs0,d0,ds0,p0,q0,hargs,rfl,rfl,h0,r0⟩:=trodAll_cons hA
 obtain⟨v1,vs1,d1,ds1,p1,q1,rfl,rfl,rfl,h1,r1⟩:=trodAll_cons r0
 obtain⟨v2,vs2,d2,ds2,p2,q2,rfl,rfl,rfl,h2,r2⟩:=trodAll_cons r1
 obtain⟨v3,vs3,d3,ds3,p3,q3,rfl,rfl,rfl,h3,r3⟩:=trodAll_cons r2
 obtain⟨v4,vs4,d4,ds4,p4,q4,rfl,rfl,rfl,h4,r4⟩:=trodAll_cons r3
 obtain⟨rfl,rfl,rfl⟩:=trodAll_nil r4
 obtain rfl:args = #[v0,v1,v2,v3,v4]:=by cases args;simp_all
 obtain⟨rfl,rfl⟩:=trodVars_none hV
 have k0:=h0
 have lt0:∀ x∈p0,x.block<W.heap.size:=by obtain⟨m,hm⟩:=k0;exact DataW.trod_lt m _ _ _ hm
 obtain⟨z0,cs0,rfl,t0⟩:=Go.Mach.open_any (j:=0) (P:=Tryz.prog) (n:=12) (T:=(.pair (.pair (.pair (.int .i64) (.pair (.int .i64) (.int .i64))) (.slc (.pair (.int .i64) (.pair (.int .i64) (.pair (.int .i64) (.pair (.int .i64) (.pair (.int .i64) (.pair (.int .i64) .bool)))))))) (.pair (.int .u64) (.pair (.slc (.int .i8)) (.pair (.int .i64) (.pair (.slc (.int .i8)) (.int .i64))))))) (cts:=[3,3,3,23,31,28,3,28,3]) Tryz.underlying49 (by kernel_rfl) (by kernel_rfl) (by kernel_rfl) (hval 0 49 v0 rfl rfl) h0 hsz (by kernel_rfl) rfl
 have k1:=h1
 have lt1:∀ x∈p1,x.block<W.heap.size:=by obtain⟨m,hm⟩:=k1;exact DataW.trod_lt m _ _ _ hm
 obtain⟨z1,t1⟩:=Go.Mach.open_told (j:=1) (P:=Tryz.prog) (n:=12) (E:=(.int .i8)) Tryz.underlying28 (by kernel_rfl) (hval 1 28 v1 rfl rfl) h1 hsz (by kernel_rfl) rfl
 obtain⟨z2,rfl,rfl,rfl,w2⟩:=open_int Tryz.underlying3 (hval 2 3 v2 rfl rfl) h2
 obtain⟨z3,rfl,rfl,rfl,w3⟩:=open_int Tryz.underlying31 (hval 3 31 v3 rfl rfl) h3
 obtain⟨z4,rfl,rfl,rfl,w4⟩:=open_int Tryz.underlying3 (hval 4 3 v4 rfl rfl) h4
 clear hA0 hval0
 refine(aOt t0 t1 w2 w3 w4).mono fun e W' ⟨he,bel⟩ => ?_
 subst he
 exact⟨_,rfl,_,_,_,[],_,[],hW',trodAll_mk1 (shut_bool Tryz.underlying4 _),(trodAll_cons_mk (Below.trod aHe (by kernel_rfl) (of_decide_eq_true (by kernel_rfl)) k0 bel lt0) (trodAll_cons_mk (Below.trod aHe (by kernel_rfl) (of_decide_eq_true (by kernel_rfl)) k1 bel lt1) (trodAll_cons_mk (shut_int Tryz.underlying3 w2) (trodAll_cons_mk (shut_int Tryz.underlying31 w3) (trodAll_cons_mk (shut_int Tryz.underlying3 w4) trodAll_mk0))))),rfl,bel.frame _,fun h=>by cases h⟩
theorem over:Rows.backwardRunsRow.holds Tryz.pinned (OpenSpec.ofChange Rows.backwardRunsSpec) :=
 OpenClaim.holds_of_wide 4 Tryz.f4 rfl rfl rfl rfl rfl rfl rfl ⟨rfl,rfl,rfl,rfl,rfl⟩ rfl rfl rfl rfl rfl (by kernel_rfl) Tryz.func4 (by kernel_rfl)
  (of_decide_eq_true (by kernel_rfl)) (by unfold Func.isWrapper;first|(rw[if_pos (by decide +kernel)];kernel_rfl)|(rw[if_neg (by decide +kernel)];exact⟨rfl,rfl⟩))
  (fun os started H enc _=>aNV os started H enc)
theorem proved:Rows.BackwardRunsSaid:=over
#print axioms proved
end Go.Proofs.YtcfpfefadlnmcaaGreat.backwardRuns
