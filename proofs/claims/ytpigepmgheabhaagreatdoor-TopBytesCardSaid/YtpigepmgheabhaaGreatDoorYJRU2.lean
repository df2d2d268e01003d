/- Part of the proof. No condition. -/
import Derived.Test.YtpigepmgheabhaaGreatDoorYJRU0
import Derived.Test.YtpigepmgheabhaaGreatDoorYSound
import Derived.Test.YtpigepmgheabhaaGreatDoorProg
import Derived.KernelRfl
namespace Go.Mach.J
open Go Go.Mach
set_option maxRecDepth 100000 in
theorem aCy (hk0:CallerKept (lA Go.Proofs.Tryz.prog)):f8 (jI kG (lA Go.Proofs.Tryz.prog) Go.Proofs.Tryz.prog 99999) aDC:=by
 have hS:=BO (xb:=kG) (P:=Go.Proofs.Tryz.prog) (YC Go.Proofs.Tryz.prog) (rF kG hk0 Go.Proofs.Tryz.prog) 99999
 intro fl f args K H k hH h
 rcases cO.1 h with⟨_,h⟩|⟨_,h⟩
 rotate_left
 ·exact hS fl f args K H k hH h
 obtain⟨n,tr⟩:=K
 rcases cO.1 h with⟨_,h⟩|⟨_,h⟩
 ·exact IV hx2 hx3 hS aHB hH h
 rcases cO.1 h with⟨_,h⟩|⟨_,h⟩
 ·exact IV hx4 hx5 hS aIA hH h
 rcases cO.1 h with⟨_,h⟩|⟨_,h⟩
 ·exact IV hx8 hx9 hS aHL hH h
 exact h.elim
def en0 (Z:Prop):Prop:=h2 fun G=>((4:Nat)=4/\(183:FuncId)=183/\([(.agg ⟨[(i 1),(i 2),(i 2),(s 257 0 4 4)]⟩),(.agg ⟨[(i 1),(i 2),(i 2),(i' 4),(i 2),(s 505 0 6 6)]⟩),(.agg ⟨[(i 2),(i 5),(i 2),(i 3),(i 0),(i 0)]⟩),(.agg ⟨[(w 1),(i 0),(s 254 0 4 4)]⟩)]:List Value)=[(.agg ⟨[(i 1),(i 2),(i 2),(s 257 0 4 4)]⟩),(.agg ⟨[(i 1),(i 2),(i 2),(i' 4),(i 2),(s 505 0 6 6)]⟩),(.agg ⟨[(i 2),(i 5),(i 2),(i 3),(i 0),(i 0)]⟩),(.agg ⟨[(w 1),(i 0),(s 254 0 4 4)]⟩)]/\G=G)/\Z
theorem aFt {Z:Prop}(h:Z):en0 Z:=⟨⟨rfl,rfl,rfl,rfl⟩,h⟩
def en1 (Z:Prop):Prop:=h4 fun G=>((4:Nat)=4/\(183:FuncId)=183/\([(.agg ⟨[(i 1),(i 2),(i 2),(s 257 0 4 4)]⟩),(.agg ⟨[(i 1),(i 2),(i 2),(i' 4),(i 2),(s 505 0 6 6)]⟩),(.agg ⟨[(i 2),(i 5),(i 2),(i 3),(i 0),(i 0)]⟩),(.agg ⟨[(w 1),(i 1),(s 2795 0 4 4)]⟩)]:List Value)=[(.agg ⟨[(i 1),(i 2),(i 2),(s 257 0 4 4)]⟩),(.agg ⟨[(i 1),(i 2),(i 2),(i' 4),(i 2),(s 505 0 6 6)]⟩),(.agg ⟨[(i 2),(i 5),(i 2),(i 3),(i 0),(i 0)]⟩),(.agg ⟨[(w 1),(i 1),(s 2795 0 4 4)]⟩)]/\G=G)/\Z
theorem aEu {Z:Prop}(h:Z):en1 Z:=⟨⟨rfl,rfl,rfl,rfl⟩,h⟩
def en2 (Z:Prop):Prop:=h8 fun G=>((4:Nat)=4/\(183:FuncId)=183/\([(.agg ⟨[(i 1),(i 2),(i 2),(s 257 0 4 4)]⟩),(.agg ⟨[(i 1),(i 2),(i 2),(i' 4),(i 2),(s 505 0 6 6)]⟩),(.agg ⟨[(i 2),(i 5),(i 2),(i 3),(i 0),(i 0)]⟩),(.agg ⟨[(w 1),(i 2),(s 4625 0 4 4)]⟩)]:List Value)=[(.agg ⟨[(i 1),(i 2),(i 2),(s 257 0 4 4)]⟩),(.agg ⟨[(i 1),(i 2),(i 2),(i' 4),(i 2),(s 505 0 6 6)]⟩),(.agg ⟨[(i 2),(i 5),(i 2),(i 3),(i 0),(i 0)]⟩),(.agg ⟨[(w 1),(i 2),(s 4625 0 4 4)]⟩)]/\G=G)/\Z
theorem aFu {Z:Prop}(h:Z):en2 Z:=⟨⟨rfl,rfl,rfl,rfl⟩,h⟩
def UN:List Nat:=[12,47,82,115,151]
end Go.Mach.J
namespace Go.Mach.J
open Go Go.Mach
theorem aHz (k:Value->HT->Prop):(h0 fun H=>wH kG Go.Proofs.Tryz.prog xk 100004 4 11 [] H fun v H=>gcK [211,212,219,220,224,239,240,247,248,252,254,257,405,424,443,462,481,500,505,506,507,508,509,510,957,958] H fun H=>k v H)=h1 fun H=>k (p 958 0) H:=by kernel_rfl
theorem aGl (k:Value->HT->Prop):(h1 fun H=>aDs kG Go.Proofs.Tryz.prog xk aDC 99999 UN 5 4 12 [(p 958 0),(.string ⟨⟨[116,114,97,105,110,32,50]⟩⟩)] H fun v H=>gcK [257,405,424,443,462,481,500,505,506,507,508,509,510,957,958,4372,4425,4458,4463,4476,4564,4593,4610,4615,4622,4625] H fun H=>k v H)=en0 (en1 (h6 fun H=>k (.string ⟨⟨[111,107,32,50]⟩⟩) H)):=by kernel_rfl
theorem aIB (k:Value->HT->Prop):(h6 fun H=>wH kG Go.Proofs.Tryz.prog xk 100004 4 12 [(p 958 0),(.string ⟨⟨[99,104,101,99,107]⟩⟩)] H fun v H=>gcK [257,405,424,443,462,481,500,505,506,507,508,509,510,957,958,4372,4425,4458,4463,4476,4564,4593,4610,4615,4622,4625,5118] H fun H=>k v H)=h7 fun H=>k (.string ⟨⟨[111,107,32,50]⟩⟩) H:=by kernel_rfl
theorem aHy (k:Value->HT->Prop):(h7 fun H=>aDs kG Go.Proofs.Tryz.prog xk aDC 99999 UN 5 4 12 [(p 958 0),(.string ⟨⟨[116,114,97,105,110,32,49]⟩⟩)] H fun v H=>gcK [257,405,424,443,462,481,500,505,506,507,508,509,510,957,958,5118,6702,6755,6788,6793,6806,6894,6923,6940,6945,6952,6955] H fun H=>k v H)=en2 (h10 fun H=>k (.string ⟨⟨[111,107,32,49]⟩⟩) H):=by kernel_rfl
theorem aGx (k:Value->HT->Prop):(h10 fun H=>wH kG Go.Proofs.Tryz.prog xk 100004 4 12 [(p 958 0),(.string ⟨⟨[99,114,97,115,104,32,45]⟩⟩)] H fun v H=>gcK [257,405,424,443,462,481,500,505,506,507,508,509,957,958,6965,6981,7067,7105,7170,7174,7188,7209,7231,7264,7268,7278,7281] H fun H=>k v H)=h11 fun H=>k (.string ⟨⟨[111,107,32,50]⟩⟩) H:=by kernel_rfl
theorem aGY (k:Value->HT->Prop):(h11 fun H=>wH kG Go.Proofs.Tryz.prog xk 100004 4 12 [(p 958 0),(.string ⟨⟨[115,116,101,112]⟩⟩)] H fun v H=>gcK [257,405,424,443,462,481,500,505,506,507,508,509,957,958,6965,6981,7067,7105,7170,7174,7188,7209,7231,7264,7268,7278,7281] H fun H=>k v H)=h12 fun H=>k (.string ⟨⟨[50]⟩⟩) H:=by kernel_rfl
end Go.Mach.J
