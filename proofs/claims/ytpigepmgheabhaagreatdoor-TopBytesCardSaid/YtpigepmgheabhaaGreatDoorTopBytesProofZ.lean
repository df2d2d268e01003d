/- The statement TopBytes: for every input that the row speaks of, the Go function returns true, and each argument reads afterwards as it read before. No condition beyond the row's own. -/
import Derived.Test.YtpigepmgheabhaaGreatDoorRows
import Derived.Test.YtpigepmgheabhaaGreatDoorZ48
import Derived.Test.YtpigepmgheabhaaGreatDoorZ32
import Derived.Test.YtpigepmgheabhaaGreatDoorCards
import Derived.Test.YtpigepmgheabhaaGreatDoorTie
import Derived.Deep.DeepHandedRow
import Derived.Deep.DeepWitnessRowRef
import Derived.Lib.LaidIn
import Derived.SevenTiedAt
import Derived.SizedLaws
import Derived.ChangeMaps5
import Derived.WalkKit
import Derived.ProofKit
import Derived.OpenShut
import Derived.ShutString
import Derived.ChangeOld
import Derived.Below
namespace Go.Proofs.YtpigepmgheabhaaGreatDoor.topBytes
open Go.ChangeShapes Go.WideShapes Go.ChangeAt Go.RowKit
set_option linter.unusedVariables false
set_option maxRecDepth 100000
theorem aIX {w:World}{z0:ByteArray}{u1:Value}{z1:List (Go.Mach.Ty.den (.int .u8))}{u2:Value}{z2:List (Go.Mach.Ty.den (.int .u8))}(t1:Go.Mach.Told w (.int .u8) z1 u1)(t2:Go.Mach.Told w (.int .u8) z2 u2)(hL:Go.Mach.LibVars w) :
 Calls Tryz.prog 3 #[.string z0,u1,u2] w fun e w'=>e = .returned (.bool true)/\Below w.heap.size w w' :=
 Go.Mach.law_calls (avs:=[.string z0,u1,u2]) (Go.Mach.extF_sound hL hL.top) (by kernel_rfl)
   (rM (z0,(z1,(z2,()))) _ (aAP (a:=z0) (b:=z1) (c:=z2) t1.fits t2.fits (Go.Mach.law_true rfl)))
   (.cons (⟨rfl,rfl⟩) (.cons (t1.rl) (.cons (t2.rl) .nil)))
   (by
    intro x hx
    simp only[List.mem_cons,List.not_mem_nil,or_false]at hx
    rcases hx with rfl|rfl|rfl
    ·exact .string _
    ·exact t1.rel
    ·exact t2.rel)
theorem own:ownKnob Tryz.prog.godebug=none:=by kernel_rfl
theorem QG:laidOutB Tryz.prog=true:=by kernel_rfl
theorem SG (os:Os){H:Type}(enc:TypeId×Value->H):(OpenSpec.ofChange Rows.topBytesSpec).preRow enc Tryz.prog Tryz.f3 Rows.topBytesRow.domain false Rows.topBytesRow.laid ((yD os).forCall (fun _ _=>0) ⟨#[],#[.string ByteArray.empty,.slice none 0 0,.slice none 0 0],[]⟩).memory #[.string ByteArray.empty,.slice none 0 0,.slice none 0 0]:=by
 have hw:(DataW.whole enc Tryz.prog ((yD os).forCall (fun _ _=>0) ⟨#[],#[.string ByteArray.empty,.slice none 0 0,.slice none 0 0],[]⟩).memory Tryz.f3.params.toList (OpenSpec.ofChange Rows.topBytesSpec).vars false (#[.string ByteArray.empty,.slice none 0 0,.slice none 0 0]:Array Value).toList 8).isSome=true:=by kernel_rfl
 obtain⟨x,hx⟩:=Option.isSome_iff_exists.1 hw
 exact OpenSpec.preRow_of_cond 8 hx rfl (fun k hk=>by cases hk) (by kernel_rfl) (aBN os _)
theorem aEt (os:Os)(started:os.Started)(H:Type)(enc:TypeId×Value->H) :
 ReturnsInHanded {} Tryz.checked os 3 .any ((OpenSpec.ofChange Rows.topBytesSpec).preRow enc Tryz.prog Tryz.f3 Rows.topBytesRow.domain false Rows.topBytesRow.laid) (Rows.topBytesSpec.post enc Tryz.prog Tryz.f3 false true false false):=by
 refine returnsInHanded_of_row (C:=Tryz.checked) (s:=OpenSpec.ofChange Rows.topBytesSpec) (F:=fun _ _ _=>0) own started (by kernel_rfl) Tryz.func3
  (witness_row_atRef (enc:=enc) (C:=Tryz.checked) false (yD os) #[.string ByteArray.empty,.slice none 0 0,.slice none 0 0] rfl (by kernel_rfl) (by kernel_rfl) (by kernel_rfl) (SG os enc)) ?_
 intro W base args ds gs before hval0 hW hcnd _ hsz hL hsh _
 have hLV:Go.Mach.LibVars W:=aCr hL hsh
 have o7:∀ (j:Nat) t v,Tryz.f3.params[j]? = some t->args[j]? = some v->Value.okWide Tryz.prog W .any base t v:=hval0
 have hW':=hW
 obtain⟨p,q,hA0,hV,rfl,hfz,hnd⟩:=hW
 have hA:DataW.TrodAll enc Tryz.prog W 0 (fun _=>true) true Tryz.f3.params.toList args.toList ds p:=hA0
 rw[Tryz.params3]at hA o7
 obtain⟨v0,vs0,d0,ds0,p0,q0,hargs,rfl,rfl,h0,r0⟩:=trodAll_cons hA
 obtain⟨v1,vs1,d1,ds1,p1,q1,rfl,rfl,rfl,h1,r1⟩:=trodAll_cons r0
 obtain⟨v2,vs2,d2,ds2,p2,q2,rfl,rfl,rfl,h2,r2⟩:=trodAll_cons r1
 obtain⟨rfl,rfl,rfl⟩:=trodAll_nil r2
 obtain rfl:args = #[v0,v1,v2]:=by cases args;simp_all
 obtain⟨rfl,rfl⟩:=trodVars_none hV
 have k0:=h0
 have lt0:∀ x∈p0,x.block<W.heap.size:=by obtain⟨m,hm⟩:=k0;exact DataW.trod_lt m _ _ _ hm
 obtain⟨z0,rfl,_⟩:=Go.ChangeMaps.open_string Tryz.underlying9 (o7 0 9 v0 rfl rfl) h0
 have k1:=h1
 have lt1:∀ x∈p1,x.block<W.heap.size:=by obtain⟨m,hm⟩:=k1;exact DataW.trod_lt m _ _ _ hm
 obtain⟨z1,t1⟩:=Go.Mach.open_told (j:=1) (P:=Tryz.prog) (n:=12) (E:=(.int .u8)) Tryz.underlying22 (by kernel_rfl) (o7 1 22 v1 rfl rfl) h1 hsz (by kernel_rfl) rfl
 have k2:=h2
 have lt2:∀ x∈p2,x.block<W.heap.size:=by obtain⟨m,hm⟩:=k2;exact DataW.trod_lt m _ _ _ hm
 obtain⟨z2,t2⟩:=Go.Mach.open_told (j:=2) (P:=Tryz.prog) (n:=12) (E:=(.int .u8)) Tryz.underlying22 (by kernel_rfl) (o7 2 22 v2 rfl rfl) h2 hsz (by kernel_rfl) rfl
 clear hA0 hval0
 refine(aIX t1 t2 hLV).mono fun e W' ⟨he,bel⟩ => ?_
 subst he
 exact⟨_,rfl,_,_,_,[],_,[],hW',trodAll_mk1 (shut_bool Tryz.underlying4 _),(trodAll_cons_mk (Below.trod QG (by kernel_rfl) (of_decide_eq_true (by kernel_rfl)) k0 bel lt0) (trodAll_cons_mk (Below.trod QG (by kernel_rfl) (of_decide_eq_true (by kernel_rfl)) k1 bel lt1) (trodAll_cons_mk (Below.trod QG (by kernel_rfl) (of_decide_eq_true (by kernel_rfl)) k2 bel lt2) trodAll_mk0))),rfl,bel.frame _,fun h=>by cases h⟩
theorem aHr:laidOutB Tryz.pinned.checked.prog=true:=by kernel_rfl
theorem aHM:mapsRowed Tryz.pinned.checked.prog=true:=by kernel_rfl
theorem aHp:(Rows.topBytesRow.inPlace==Tryz.pinned.checked.prog.inPlace 3)=true:=by kernel_rfl
theorem aGj:(Rows.topBytesRow.unfollowed==Tryz.pinned.checked.prog.unfollowed 3)=true:=by kernel_rfl
theorem aHC:(Rows.topBytesRow.recurses==Tryz.pinned.checked.prog.recurses 3)=true:=by kernel_rfl
theorem aHg:(Rows.topBytesRow.named==Tryz.pinned.checked.prog.varsNamed 3)=true:=by kernel_rfl
theorem aHw:(Rows.topBytesRow.plainKeys==Tryz.pinned.checked.prog.plainKeys)=true:=by kernel_rfl
theorem aHo:Tryz.pinned.checked.prog.stopsHeard=true:=by kernel_rfl
theorem aHx:Tryz.pinned.checked.prog.mayEnter=true:=by kernel_rfl
theorem closed:joinedFacts Tryz.pinned.checked.prog 3 Tryz.f3 Rows.topBytesSpec Rows.topBytesRow=true:=by
 unfold joinedFacts
 rw[aHr,aHM,aHp,aGj,aHC,aHg,aHw,aHo,aHx]
 kernel_rfl
theorem over:Rows.topBytesRow.holds Tryz.pinned (OpenSpec.ofChange Rows.topBytesSpec) :=
 OpenClaim.holds_of_wide 3 Tryz.f3 rfl rfl rfl rfl rfl rfl rfl ⟨rfl,rfl,rfl,rfl,rfl⟩ rfl rfl rfl rfl rfl (by kernel_rfl) Tryz.func3 closed
  (of_decide_eq_true (by kernel_rfl)) (by unfold Func.isWrapper;first|(rw[if_pos (by decide +kernel)];kernel_rfl)|(rw[if_neg (by decide +kernel)];exact⟨rfl,rfl⟩))
  (fun os started H enc _=>by rw[OpenClaim.pre_eq_preRow];exact aEt os started H enc)
theorem aDV:(Tryz.f3.params.toList.all fun t => !Tryz.prog.wantsStandIn t)=true:=by kernel_rfl
theorem proved:Rows.TopBytesCardSaid :=
 Claim7.holds_tied_plain_at .later [] [.data,.data,.data,.data,.sentinel,.sentinel,.pinned] true (true, "a8970c0645af5a39cf69ad010b52bab70292b9330814623bed2670531d852964") true
  over (fun _ h=>by cases h) (by kernel_rfl) (fun _ h=>by cases h) topBytes_row_tie rfl ⟨rfl,rfl⟩ (by kernel_rfl) rfl
  (fun f fn hf hfn=>by
   obtain rfl:f=3:=Option.some.inj ((show Tryz.prog.funcNamed Rows.topBytesRow.func=some 3 by kernel_rfl).symm.trans hf) |>.symm
   obtain rfl:fn=Tryz.f3:=(Option.some.inj (Tryz.func3.symm.trans hfn)).symm
   exact⟨by kernel_rfl,fun j t ht=>by
    have:=List.all_eq_true.1 aDV t (List.mem_of_getElem? (by rw[Array.getElem?_toList];exact ht))
    show Tryz.prog.wantsStandIn t=false
    simpa using this⟩)
  (by kernel_rfl)
#print axioms proved
end Go.Proofs.YtpigepmgheabhaaGreatDoor.topBytes
