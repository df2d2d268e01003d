/- The law ConsoleSteps, reckoned: whatever the numbers are, it comes to true. Condition: the console's lines are told. -/
import Derived.Test.YtlgcbiacijgcmaaGreatDoorJY
import Derived.Test.YtlgcbiacijgcmaaGreatDoorWX
namespace Go.Mach.J
open Go Go.Mach
set_option maxRecDepth 100000

/-- A slice of numbers, as far as it is read. -/
structure LR (H : AHeap) (a : Option Addr) (len : Nat) (base : Nat) (zs : List Int) : Prop where
  at_ : ∀ i, i < len → ∃ b o, a = some ⟨b, o, none⟩ ∧ b < base ∧ cellAt H ⟨b, o + i, none⟩ = some (.int .i64 (zs.getD i 0))
  len : (len : Int) ≤ 9223372036854775807
theorem LR.kept {H H' : AHeap} {a : Option Addr} {len base fl : Nat} {zs : List Int} (h : LR H a len base zs) (hb : base ≤ fl) (hfl : fl ≤ H.length) (hk : Kept (fun id => fl ≤ id) H H') : LR H' a len base zs :=
  ⟨fun i hi => by
    obtain ⟨b, o, e, h1, h2⟩ := h.at_ i hi
    refine ⟨b, o, e, h1, ?_⟩
    have : H'[b]? = H[b]? := hk.keep b (by omega) (by omega)
    unfold cellAt blk? at h2 ⊢
    simp only at h2 ⊢
    rw [this]
    exact h2, h.len⟩
theorem LR.push {H : AHeap} {a : Option Addr} {len base : Nat} {zs : List Int} (h : LR H a len base zs) (hb : base ≤ H.length) (B : Blk) : LR (H ++ [B]) a len base zs :=
  h.kept (fl := H.length) hb (Nat.le_refl _) (Kept.push _ _ _)
theorem St.push {n c fl : Nat} {H : AHeap} (h : St n c fl H) (K : AHeap) : St n c fl (H ++ K) := by
  obtain ⟨σ, hF, hc⟩ := h
  exact ⟨σ, ⟨fun b B hb => ⟨(hF.at_ b B hb).1, by
    have := (hF.at_ b B hb).2
    rw [List.getElem?_append_left (List.getElem?_eq_some_iff.1 this).1]
    exact this⟩, hF.inj⟩, hc⟩

/-- A byte in a block of its own, put into a text. -/
theorem conv_new (H : AHeap) (x : Nat) : convA Go.Proofs.Tryz.prog 27 9 (.slice (some ⟨H.length, 0, none⟩) 1 1) (H ++ [⟨[.int .u8 (.ofNat x)], 1, true, true⟩]) = some (str [UInt8.ofNat x], H ++ [⟨[.int .u8 (.ofNat x)], 1, true, true⟩]) := by
  have hu : Go.Proofs.Tryz.prog.underlying 27 = some (.slice 5) := by kernel_rfl
  have hd : Go.Proofs.Tryz.prog.underlying 9 = some .string := by kernel_rfl
  have he : Go.Proofs.Tryz.prog.underlying 5 = some (.int .u8) := by kernel_rfl
  have hc : cellsAt (H ++ [⟨[.int .u8 (.ofNat x)], 1, true, true⟩]) ⟨H.length, 0, none⟩ 1 = some [.int .u8 (.ofNat x)] := by
    unfold cellsAt blk?
    simp
    rfl
  unfold convA
  simp only [hu, hd, he, hc]
  rfl
theorem prim_conv {fl : Nat} {H : AHeap} {x : Nat} {t : Temps} {y : Operand} (h : eval t y = .slice (some ⟨H.length, 0, none⟩) 1 1) :
    prim Go.Proofs.Tryz.prog fl (.convert 27 9 y) (eval t) (H ++ [⟨[.int .u8 (.ofNat x)], 1, true, true⟩]) = some (.value (str [UInt8.ofNat x]), H ++ [⟨[.int .u8 (.ofNat x)], 1, true, true⟩]) := by
  have hm : markA Go.Proofs.Tryz.prog fl 27 9 (.slice (some ⟨H.length, 0, none⟩) 1 1) (H ++ [⟨[.int .u8 (.ofNat x)], 1, true, true⟩]) = none := by
    unfold markA
    simp only
    rw [if_neg (by rintro ⟨h, _⟩; exact absurd h (by decide))]
  simp only [prim, h, hm, conv_new, Option.map_some]
theorem bytes_app (l m : List UInt8) : (⟨⟨l⟩⟩ ++ ⟨⟨m⟩⟩ : ByteArray) = ⟨⟨l ++ m⟩⟩ := by
  apply ByteArray.ext
  simp [ByteArray.data_append]


/-- What holds at the head of a round. -/
def Head (fl base : Nat) (a : Option Addr) (len cap : Nat) (zs : List Int) (c : Nat) (k : Nat) (t : Temps) (H : AHeap) : Prop :=
  ∃ j n : Nat, k = 13 - j ∧ j ≤ 12 ∧ j ≤ len ∧ n ≤ 3 * j ∧ St n c fl H ∧ LR H a len base zs ∧ fl ≤ H.length ∧
    KeepAll t [(3, p c 0), (4, str sW), (5, .int .i64 (.ofNat n)), (12, .slice a len cap), (13, .int .i64 (.ofNat len)), (14, .int .i64 (.ofNat j))]
/-- .. and behind the loop. -/
def Done0 (fl : Nat) (c : Nat) (t : Temps) (H : AHeap) : Prop :=
  ∃ n : Nat, n < 37 ∧ St n c fl H ∧ fl ≤ H.length ∧ KeepAll t [(3, p c 0), (4, str sW), (5, .int .i64 (.ofNat n))]
theorem mod4 (x : Int) : ∃ k : Nat, k < 4 ∧ Int.tmod (IntKind.u64.wrap x) 4 = k := by
  have h : 0 ≤ IntKind.u64.wrap x := by
    unfold IntKind.wrap
    simp only [show IntKind.u64.signed = false from rfl, Bool.false_and, Bool.false_eq_true, if_false]
    exact Int.emod_nonneg _ (by decide)
  refine ⟨(Int.tmod (IntKind.u64.wrap x) 4).toNat, ?_, ?_⟩
  · rw [Int.tmod_eq_emod_of_nonneg h]; omega
  · rw [Int.tmod_eq_emod_of_nonneg h]; omega
theorem ofN (n : Nat) : (Int.ofNat n) = (n : Int) := rfl


/-- A byte's way into a text. -/
theorem wrapU8 (n : Nat) (h : n < 256) : IntKind.u8.wrap (Int.ofNat n) = Int.ofNat n := wrap_u8 _ (by rw [ofN]; omega) (by rw [ofN]; omega)
theorem wrapI (n : Nat) (h : n < 1000) : IntKind.i64.wrap (Int.ofNat n) = Int.ofNat n := wrap_i64 _ (by rw [ofN]; omega) (by rw [ofN]; omega)

/-- A round of the loop. -/
theorem round_W {call : Caller} (hT : Told call) {fl base : Nat} (hbf : base ≤ fl) {a : Option Addr} {len cap : Nat} {zs : List Int} {c : Nat} {x : Code}
    (hx : (bod Go.Proofs.Tryz.f3).bind (fun c => match c with
      | .seq _ (.seq _ (.seq _ (.seq _ (.seq (.seq _ (.block _ (.loop x))) _)))) => some x
      | _ => none) = some x)
    (k : Nat) (t : Temps) (H : AHeap) (hI : Head fl base a len cap zs c k t H) :
    W Go.Proofs.Tryz.prog call fl x t H fun e t1 H1 => match e with
      | .normal => ∃ k', k' < k ∧ Head fl base a len cap zs c k' t1 H1
      | .exit id' => (if id' = 0 then AExit.normal else .exit id') = .normal ∧ Done0 fl c t1 H1
      | _ => False := by
  obtain ⟨j, n, rfl, hj, hjl, hn, hs, hl, hfl, hk⟩ := hI
  obtain rfl : _ = x := Option.some.inj hx
  have hlen := hl.len
  refine W_forget _ hk fun u => ?_
  refine W_seq ?_
  refine W_reg (List.replicate 1 true) [] (.inr ⟨rfl, by kernel_rfl⟩) ?_
  refine D_pure (v := .bool (decide (Int.ofNat j < Int.ofNat len))) (by kernel_rfl) (by kernel_rfl) ?_
  refine D_nil ⟨by kernel_rfl, ?_⟩
  refine W_forget [(3, p c 0), (4, str sW), (5, .int .i64 (.ofNat n)), (12, .slice a len cap), (13, .int .i64 (.ofNat len)), (14, .int .i64 (.ofNat j)), (15, .bool (decide (Int.ofNat j < Int.ofNat len)))] ⟨by kernel_rfl, by kernel_rfl, by kernel_rfl, by kernel_rfl, by kernel_rfl, by kernel_rfl, by kernel_rfl, trivial⟩ fun u => ?_
  refine W_seq ?_
  by_cases hlt : j < len
  rotate_left
  · refine W_false (show Value.bool (decide (Int.ofNat j < Int.ofNat len)) = .bool false by rw [decide_eq_false (by rw [ofN, ofN]; omega)]) ?_
    exact W_exit ⟨rfl, n, by omega, hs, hfl, ⟨by kernel_rfl, by kernel_rfl, by kernel_rfl, trivial⟩⟩
  refine W_true (show Value.bool (decide (Int.ofNat j < Int.ofNat len)) = .bool true by rw [decide_eq_true (by rw [ofN, ofN]; omega)]) ?_
  refine W_skip ?_
  refine W_seq ?_
  refine W_block ?_
  refine W_seq ?_
  obtain ⟨b, o, rfl, hb, hc⟩ := hl.at_ j hlt
  refine W_reg (List.replicate 5 true) [] (.inr ⟨rfl, by kernel_rfl⟩) ?_
  refine D_pure (v := .int .i64 (.ofNat j)) (by kernel_rfl) (by kernel_rfl) ?_
  refine D_pure (v := .pointer (some ⟨b, o + j, none⟩)) (by kernel_rfl) ?_ ?_
  · have := prim_index (P := Go.Proofs.Tryz.prog) (fl := fl) (t := tset (tl [(3, p c 0), (4, str sW), (5, .int .i64 (.ofNat n)), (12, .slice (some ⟨b, o, none⟩) len cap), (13, .int .i64 (.ofNat len)), (14, .int .i64 (.ofNat j))] u) 16 (.int .i64 (.ofNat j))) (H := H) (x := .tmp 12) (ix := .tmp 14) (ty := 22) (e := 3) (es := 1) (eb := 8) (b := b) (o := o) (n := len) (c := cap) (k := .i64) (i := Int.ofNat j) (by kernel_rfl) (by kernel_rfl) (by kernel_rfl) (by rw [ofN]; omega) (by rw [ofN]; omega)
    rw [show o + (Int.ofNat j).toNat * 1 = o + j by rw [Nat.mul_one]; rfl] at this
    exact this
  refine D_pure (v := .int .i64 (zs.getD j 0)) (by kernel_rfl) (prim_load (p := ⟨b, o + j, none⟩) (by kernel_rfl) ?_) ?_
  · show loadA _ 3 H ⟨b, o + j, none⟩ = _
    unfold loadA
    rw [show aTy Go.Proofs.Tryz.prog 3 = .one by kernel_rfl]
    exact hc
  refine D_pure (v := .int .i64 (.ofNat j)) (by kernel_rfl) (by kernel_rfl) ?_
  refine D_pure (v := .int .i64 (zs.getD j 0)) (by kernel_rfl) (by kernel_rfl) ?_
  refine D_nil ⟨by kernel_rfl, ?_⟩
  refine W_forget [(3, p c 0), (4, str sW), (5, .int .i64 (.ofNat n)), (12, .slice (some ⟨b, o, none⟩) len cap), (13, .int .i64 (.ofNat len)), (14, .int .i64 (.ofNat j)), (6, .int .i64 (.ofNat j)), (7, .int .i64 (zs.getD j 0))] ⟨by kernel_rfl, by kernel_rfl, by kernel_rfl, by kernel_rfl, by kernel_rfl, by kernel_rfl, by kernel_rfl, by kernel_rfl, trivial⟩ fun u => ?_
  refine W_seq ?_
  refine W_seq ?_
  refine W_reg (List.replicate 2 true) [] (.inr ⟨rfl, by kernel_rfl⟩) ?_
  refine D_pure (v := .int .i64 (.ofNat j)) (by kernel_rfl) (by kernel_rfl) ?_
  refine D_pure (v := .bool (decide ((12 : Int) ≤ Int.ofNat j))) (by kernel_rfl) (by kernel_rfl) ?_
  refine D_nil ⟨by kernel_rfl, ?_⟩
  refine W_forget [(3, p c 0), (4, str sW), (5, .int .i64 (.ofNat n)), (12, .slice (some ⟨b, o, none⟩) len cap), (13, .int .i64 (.ofNat len)), (14, .int .i64 (.ofNat j)), (7, .int .i64 (zs.getD j 0)), (20, .bool (decide ((12 : Int) ≤ Int.ofNat j)))] ⟨by kernel_rfl, by kernel_rfl, by kernel_rfl, by kernel_rfl, by kernel_rfl, by kernel_rfl, by kernel_rfl, by kernel_rfl, trivial⟩ fun u => ?_
  by_cases hj2 : j = 12
  · refine W_true (show Value.bool (decide ((12 : Int) ≤ Int.ofNat j)) = .bool true by rw [decide_eq_true (by rw [ofN]; omega)]) ?_
    exact W_exit ⟨rfl, n, by omega, hs, hfl, ⟨by kernel_rfl, by kernel_rfl, by kernel_rfl, trivial⟩⟩
  refine W_false (show Value.bool (decide ((12 : Int) ≤ Int.ofNat j)) = .bool false by rw [decide_eq_false (by rw [ofN]; omega)]) ?_
  refine W_skip ?_
  refine W_seq ?_
  obtain ⟨k, hk4, hkx⟩ := mod4 (zs.getD j 0)
  refine W_reg (List.replicate 5 true) [] (.inr ⟨rfl, by kernel_rfl⟩) ?_
  refine D_pure (v := .int .i64 (zs.getD j 0)) (by kernel_rfl) (by kernel_rfl) ?_
  refine D_pure (v := .int .u64 (IntKind.u64.wrap (zs.getD j 0))) (by kernel_rfl) (by kernel_rfl) ?_
  refine D_opw (v := .int .u64 (.ofNat k)) (v' := .int .u64 (Int.tmod (IntKind.u64.wrap (zs.getD j 0)) 4)) (by kernel_rfl) (by kernel_rfl) (by rw [hkx]; rfl) ?_
  refine D_opw (v := .int .i64 (.ofNat k)) (v' := .int .i64 (IntKind.i64.wrap (.ofNat k))) (by kernel_rfl) (by kernel_rfl) (by rw [wrapI k (by omega)]) ?_
  refine D_pure (v := .int .i64 (.ofNat k)) (by kernel_rfl) (by kernel_rfl) ?_
  refine D_nil ⟨by kernel_rfl, ?_⟩
  refine W_forget [(3, p c 0), (4, str sW), (5, .int .i64 (.ofNat n)), (12, .slice (some ⟨b, o, none⟩) len cap), (13, .int .i64 (.ofNat len)), (14, .int .i64 (.ofNat j)), (7, .int .i64 (.ofNat k))] ⟨by kernel_rfl, by kernel_rfl, by kernel_rfl, by kernel_rfl, by kernel_rfl, by kernel_rfl, by kernel_rfl, trivial⟩ fun u => ?_
  refine W_seq ?_
  refine W_seq ?_
  have hn34 : n < 34 := by omega
  let B : Blk := ⟨[.int .u8 (.ofNat (48 + k))], 1, true, true⟩
  obtain ⟨H1, hc1, hs1⟩ := hT.train fl (H ++ [B]) c n k hn34 hk4 (hs.push [B]) (by simp; omega)
  have hk1 := hT.kept _ _ _ _ _ _ hc1
  have hfl1 : fl ≤ H1.length := by have := hk1.len; simp at this; omega
  have hl1 : LR H1 (some ⟨b, o, none⟩) len base zs := (hl.push (by omega) B).kept hbf (by simp; omega) hk1
  have hle : Nat.ble (H ++ [B]).length H1.length = true := Nat.ble_eq_true_of_le hk1.len
  clear hx hk
  rcases (show k = 0 ∨ k = 1 ∨ k = 2 ∨ k = 3 by omega) with rfl | rfl | rfl | rfl
  · refine W_semi _ rfl [] (by kernel_rfl) (by kernel_rfl) ?_
    refine S_pure (v := p c 0) (by kernel_rfl) (by kernel_rfl) ?_
    refine S_pure (v := .int .i64 (.ofNat 0)) (by kernel_rfl) (by kernel_rfl) ?_
    refine S_pure (v := .int .i64 (.ofNat (48 + 0))) (by kernel_rfl) (by kernel_rfl) ?_
    refine S_pure (v := .int .u8 (.ofNat (48 + 0))) (by kernel_rfl) (by kernel_rfl) ?_
    refine S_op (v := .slice (some ⟨H.length, 0, none⟩) 1 1) (H1 := H ++ [B]) (by kernel_rfl) (by kernel_rfl) ?_
    refine S_pure (v := str [UInt8.ofNat (48 + 0)]) (by kernel_rfl) (prim_conv (by kernel_rfl)) ?_
    refine S_pure (v := str (sTrain ++ [UInt8.ofNat (48 + 0)])) (by kernel_rfl) (by kernel_rfl) ?_
    refine S_call (f := LN) (args := #[p c 0, str (sTrain ++ [UInt8.ofNat (48 + 0)])]) (by kernel_rfl) (by kernel_rfl) hc1 ?_
    refine S_pure (v := .int .i64 (.ofNat 0)) (by kernel_rfl) (by kernel_rfl) ?_
    refine S_pure (v := .int .i64 (.ofNat (48 + 0))) (by kernel_rfl) (by kernel_rfl) ?_
    refine S_pure (v := .int .u8 (.ofNat (48 + 0))) (by kernel_rfl) (by kernel_rfl) ?_
    refine S_op (v := .slice (some ⟨H1.length, 0, none⟩) 1 1) (H1 := H1 ++ [B]) (by kernel_rfl) (by kernel_rfl) ?_
    refine S_pure2 (v := str [UInt8.ofNat (48 + 0)]) (acc := [H1.length]) (by kernel_rfl) (by unfold semiChk; simp only [List.all_cons, List.all_nil, List.contains_nil, Bool.and_true, hle, Bool.or_true]) (by kernel_rfl) (prim_conv (by kernel_rfl)) ?_
    refine S_pure (v := str (sOk ++ [UInt8.ofNat (48 + 0)])) (by kernel_rfl) (by kernel_rfl) ?_
    refine S_pure (v := .bool false) (by kernel_rfl) (by kernel_rfl) ?_
    refine S_nil ⟨by kernel_rfl, ?_⟩
    refine W_forget [(3, p c 0), (4, str sW), (5, .int .i64 (.ofNat n)), (12, .slice (some ⟨b, o, none⟩) len cap), (13, .int .i64 (.ofNat len)), (14, .int .i64 (.ofNat j)), (7, .int .i64 (.ofNat 0)), (39, .bool false)] ⟨by kernel_rfl, by kernel_rfl, by kernel_rfl, by kernel_rfl, by kernel_rfl, by kernel_rfl, by kernel_rfl, by kernel_rfl, trivial⟩ fun u => ?_
    refine W_false rfl ?_
    refine W_skip ?_
    refine W_reg (List.replicate 4 true) [] (.inr ⟨rfl, by kernel_rfl⟩) ?_
    refine D_pure (v := .int .i64 (.ofNat n)) (by kernel_rfl) (by kernel_rfl) ?_
    refine D_pure (v := .int .i64 (.ofNat 0)) (by kernel_rfl) (by kernel_rfl) ?_
    refine D_opw (v := .int .i64 (.ofNat (n + 0))) (v' := .int .i64 (IntKind.i64.wrap (Int.ofNat n + Int.ofNat 0))) (by kernel_rfl) (by kernel_rfl) (by rw [show Int.ofNat n + Int.ofNat 0 = Int.ofNat (n + 0) from rfl, wrapI (n + 0) (by omega)]) ?_
    refine D_pure (v := .int .i64 (.ofNat (n + 0))) (by kernel_rfl) (by kernel_rfl) ?_
    refine D_nil ⟨by kernel_rfl, ?_⟩
    refine W_forget [(3, p c 0), (4, str sW), (5, .int .i64 (.ofNat (n + 0))), (12, .slice (some ⟨b, o, none⟩) len cap), (13, .int .i64 (.ofNat len)), (14, .int .i64 (.ofNat j))] ⟨by kernel_rfl, by kernel_rfl, by kernel_rfl, by kernel_rfl, by kernel_rfl, by kernel_rfl, trivial⟩ fun u => ?_
    refine W_reg (List.replicate 2 true) [] (.inr ⟨rfl, by kernel_rfl⟩) ?_
    refine D_opw (v := .int .i64 (.ofNat (j + 1))) (v' := .int .i64 (IntKind.i64.wrap (Int.ofNat j + 1))) (by kernel_rfl) (by kernel_rfl) (by rw [show Int.ofNat j + 1 = Int.ofNat (j + 1) from rfl, wrapI (j + 1) (by omega)]) ?_
    refine D_pure (v := .int .i64 (.ofNat (j + 1))) (by kernel_rfl) (by kernel_rfl) ?_
    refine D_nil ⟨by kernel_rfl, ?_⟩
    refine ⟨13 - (j + 1), by omega, j + 1, n + 0, rfl, by omega, by omega, by omega, hs1.push [B], hl1.push (by omega) B, by simp; omega, ⟨by kernel_rfl, by kernel_rfl, by kernel_rfl, by kernel_rfl, by kernel_rfl, by kernel_rfl, trivial⟩⟩
  · refine W_semi _ rfl [] (by kernel_rfl) (by kernel_rfl) ?_
    refine S_pure (v := p c 0) (by kernel_rfl) (by kernel_rfl) ?_
    refine S_pure (v := .int .i64 (.ofNat 1)) (by kernel_rfl) (by kernel_rfl) ?_
    refine S_pure (v := .int .i64 (.ofNat (48 + 1))) (by kernel_rfl) (by kernel_rfl) ?_
    refine S_pure (v := .int .u8 (.ofNat (48 + 1))) (by kernel_rfl) (by kernel_rfl) ?_
    refine S_op (v := .slice (some ⟨H.length, 0, none⟩) 1 1) (H1 := H ++ [B]) (by kernel_rfl) (by kernel_rfl) ?_
    refine S_pure (v := str [UInt8.ofNat (48 + 1)]) (by kernel_rfl) (prim_conv (by kernel_rfl)) ?_
    refine S_pure (v := str (sTrain ++ [UInt8.ofNat (48 + 1)])) (by kernel_rfl) (by kernel_rfl) ?_
    refine S_call (f := LN) (args := #[p c 0, str (sTrain ++ [UInt8.ofNat (48 + 1)])]) (by kernel_rfl) (by kernel_rfl) hc1 ?_
    refine S_pure (v := .int .i64 (.ofNat 1)) (by kernel_rfl) (by kernel_rfl) ?_
    refine S_pure (v := .int .i64 (.ofNat (48 + 1))) (by kernel_rfl) (by kernel_rfl) ?_
    refine S_pure (v := .int .u8 (.ofNat (48 + 1))) (by kernel_rfl) (by kernel_rfl) ?_
    refine S_op (v := .slice (some ⟨H1.length, 0, none⟩) 1 1) (H1 := H1 ++ [B]) (by kernel_rfl) (by kernel_rfl) ?_
    refine S_pure2 (v := str [UInt8.ofNat (48 + 1)]) (acc := [H1.length]) (by kernel_rfl) (by unfold semiChk; simp only [List.all_cons, List.all_nil, List.contains_nil, Bool.and_true, hle, Bool.or_true]) (by kernel_rfl) (prim_conv (by kernel_rfl)) ?_
    refine S_pure (v := str (sOk ++ [UInt8.ofNat (48 + 1)])) (by kernel_rfl) (by kernel_rfl) ?_
    refine S_pure (v := .bool false) (by kernel_rfl) (by kernel_rfl) ?_
    refine S_nil ⟨by kernel_rfl, ?_⟩
    refine W_forget [(3, p c 0), (4, str sW), (5, .int .i64 (.ofNat n)), (12, .slice (some ⟨b, o, none⟩) len cap), (13, .int .i64 (.ofNat len)), (14, .int .i64 (.ofNat j)), (7, .int .i64 (.ofNat 1)), (39, .bool false)] ⟨by kernel_rfl, by kernel_rfl, by kernel_rfl, by kernel_rfl, by kernel_rfl, by kernel_rfl, by kernel_rfl, by kernel_rfl, trivial⟩ fun u => ?_
    refine W_false rfl ?_
    refine W_skip ?_
    refine W_reg (List.replicate 4 true) [] (.inr ⟨rfl, by kernel_rfl⟩) ?_
    refine D_pure (v := .int .i64 (.ofNat n)) (by kernel_rfl) (by kernel_rfl) ?_
    refine D_pure (v := .int .i64 (.ofNat 1)) (by kernel_rfl) (by kernel_rfl) ?_
    refine D_opw (v := .int .i64 (.ofNat (n + 1))) (v' := .int .i64 (IntKind.i64.wrap (Int.ofNat n + Int.ofNat 1))) (by kernel_rfl) (by kernel_rfl) (by rw [show Int.ofNat n + Int.ofNat 1 = Int.ofNat (n + 1) from rfl, wrapI (n + 1) (by omega)]) ?_
    refine D_pure (v := .int .i64 (.ofNat (n + 1))) (by kernel_rfl) (by kernel_rfl) ?_
    refine D_nil ⟨by kernel_rfl, ?_⟩
    refine W_forget [(3, p c 0), (4, str sW), (5, .int .i64 (.ofNat (n + 1))), (12, .slice (some ⟨b, o, none⟩) len cap), (13, .int .i64 (.ofNat len)), (14, .int .i64 (.ofNat j))] ⟨by kernel_rfl, by kernel_rfl, by kernel_rfl, by kernel_rfl, by kernel_rfl, by kernel_rfl, trivial⟩ fun u => ?_
    refine W_reg (List.replicate 2 true) [] (.inr ⟨rfl, by kernel_rfl⟩) ?_
    refine D_opw (v := .int .i64 (.ofNat (j + 1))) (v' := .int .i64 (IntKind.i64.wrap (Int.ofNat j + 1))) (by kernel_rfl) (by kernel_rfl) (by rw [show Int.ofNat j + 1 = Int.ofNat (j + 1) from rfl, wrapI (j + 1) (by omega)]) ?_
    refine D_pure (v := .int .i64 (.ofNat (j + 1))) (by kernel_rfl) (by kernel_rfl) ?_
    refine D_nil ⟨by kernel_rfl, ?_⟩
    refine ⟨13 - (j + 1), by omega, j + 1, n + 1, rfl, by omega, by omega, by omega, hs1.push [B], hl1.push (by omega) B, by simp; omega, ⟨by kernel_rfl, by kernel_rfl, by kernel_rfl, by kernel_rfl, by kernel_rfl, by kernel_rfl, trivial⟩⟩
  · refine W_semi _ rfl [] (by kernel_rfl) (by kernel_rfl) ?_
    refine S_pure (v := p c 0) (by kernel_rfl) (by kernel_rfl) ?_
    refine S_pure (v := .int .i64 (.ofNat 2)) (by kernel_rfl) (by kernel_rfl) ?_
    refine S_pure (v := .int .i64 (.ofNat (48 + 2))) (by kernel_rfl) (by kernel_rfl) ?_
    refine S_pure (v := .int .u8 (.ofNat (48 + 2))) (by kernel_rfl) (by kernel_rfl) ?_
    refine S_op (v := .slice (some ⟨H.length, 0, none⟩) 1 1) (H1 := H ++ [B]) (by kernel_rfl) (by kernel_rfl) ?_
    refine S_pure (v := str [UInt8.ofNat (48 + 2)]) (by kernel_rfl) (prim_conv (by kernel_rfl)) ?_
    refine S_pure (v := str (sTrain ++ [UInt8.ofNat (48 + 2)])) (by kernel_rfl) (by kernel_rfl) ?_
    refine S_call (f := LN) (args := #[p c 0, str (sTrain ++ [UInt8.ofNat (48 + 2)])]) (by kernel_rfl) (by kernel_rfl) hc1 ?_
    refine S_pure (v := .int .i64 (.ofNat 2)) (by kernel_rfl) (by kernel_rfl) ?_
    refine S_pure (v := .int .i64 (.ofNat (48 + 2))) (by kernel_rfl) (by kernel_rfl) ?_
    refine S_pure (v := .int .u8 (.ofNat (48 + 2))) (by kernel_rfl) (by kernel_rfl) ?_
    refine S_op (v := .slice (some ⟨H1.length, 0, none⟩) 1 1) (H1 := H1 ++ [B]) (by kernel_rfl) (by kernel_rfl) ?_
    refine S_pure2 (v := str [UInt8.ofNat (48 + 2)]) (acc := [H1.length]) (by kernel_rfl) (by unfold semiChk; simp only [List.all_cons, List.all_nil, List.contains_nil, Bool.and_true, hle, Bool.or_true]) (by kernel_rfl) (prim_conv (by kernel_rfl)) ?_
    refine S_pure (v := str (sOk ++ [UInt8.ofNat (48 + 2)])) (by kernel_rfl) (by kernel_rfl) ?_
    refine S_pure (v := .bool false) (by kernel_rfl) (by kernel_rfl) ?_
    refine S_nil ⟨by kernel_rfl, ?_⟩
    refine W_forget [(3, p c 0), (4, str sW), (5, .int .i64 (.ofNat n)), (12, .slice (some ⟨b, o, none⟩) len cap), (13, .int .i64 (.ofNat len)), (14, .int .i64 (.ofNat j)), (7, .int .i64 (.ofNat 2)), (39, .bool false)] ⟨by kernel_rfl, by kernel_rfl, by kernel_rfl, by kernel_rfl, by kernel_rfl, by kernel_rfl, by kernel_rfl, by kernel_rfl, trivial⟩ fun u => ?_
    refine W_false rfl ?_
    refine W_skip ?_
    refine W_reg (List.replicate 4 true) [] (.inr ⟨rfl, by kernel_rfl⟩) ?_
    refine D_pure (v := .int .i64 (.ofNat n)) (by kernel_rfl) (by kernel_rfl) ?_
    refine D_pure (v := .int .i64 (.ofNat 2)) (by kernel_rfl) (by kernel_rfl) ?_
    refine D_opw (v := .int .i64 (.ofNat (n + 2))) (v' := .int .i64 (IntKind.i64.wrap (Int.ofNat n + Int.ofNat 2))) (by kernel_rfl) (by kernel_rfl) (by rw [show Int.ofNat n + Int.ofNat 2 = Int.ofNat (n + 2) from rfl, wrapI (n + 2) (by omega)]) ?_
    refine D_pure (v := .int .i64 (.ofNat (n + 2))) (by kernel_rfl) (by kernel_rfl) ?_
    refine D_nil ⟨by kernel_rfl, ?_⟩
    refine W_forget [(3, p c 0), (4, str sW), (5, .int .i64 (.ofNat (n + 2))), (12, .slice (some ⟨b, o, none⟩) len cap), (13, .int .i64 (.ofNat len)), (14, .int .i64 (.ofNat j))] ⟨by kernel_rfl, by kernel_rfl, by kernel_rfl, by kernel_rfl, by kernel_rfl, by kernel_rfl, trivial⟩ fun u => ?_
    refine W_reg (List.replicate 2 true) [] (.inr ⟨rfl, by kernel_rfl⟩) ?_
    refine D_opw (v := .int .i64 (.ofNat (j + 1))) (v' := .int .i64 (IntKind.i64.wrap (Int.ofNat j + 1))) (by kernel_rfl) (by kernel_rfl) (by rw [show Int.ofNat j + 1 = Int.ofNat (j + 1) from rfl, wrapI (j + 1) (by omega)]) ?_
    refine D_pure (v := .int .i64 (.ofNat (j + 1))) (by kernel_rfl) (by kernel_rfl) ?_
    refine D_nil ⟨by kernel_rfl, ?_⟩
    refine ⟨13 - (j + 1), by omega, j + 1, n + 2, rfl, by omega, by omega, by omega, hs1.push [B], hl1.push (by omega) B, by simp; omega, ⟨by kernel_rfl, by kernel_rfl, by kernel_rfl, by kernel_rfl, by kernel_rfl, by kernel_rfl, trivial⟩⟩
  · refine W_semi _ rfl [] (by kernel_rfl) (by kernel_rfl) ?_
    refine S_pure (v := p c 0) (by kernel_rfl) (by kernel_rfl) ?_
    refine S_pure (v := .int .i64 (.ofNat 3)) (by kernel_rfl) (by kernel_rfl) ?_
    refine S_pure (v := .int .i64 (.ofNat (48 + 3))) (by kernel_rfl) (by kernel_rfl) ?_
    refine S_pure (v := .int .u8 (.ofNat (48 + 3))) (by kernel_rfl) (by kernel_rfl) ?_
    refine S_op (v := .slice (some ⟨H.length, 0, none⟩) 1 1) (H1 := H ++ [B]) (by kernel_rfl) (by kernel_rfl) ?_
    refine S_pure (v := str [UInt8.ofNat (48 + 3)]) (by kernel_rfl) (prim_conv (by kernel_rfl)) ?_
    refine S_pure (v := str (sTrain ++ [UInt8.ofNat (48 + 3)])) (by kernel_rfl) (by kernel_rfl) ?_
    refine S_call (f := LN) (args := #[p c 0, str (sTrain ++ [UInt8.ofNat (48 + 3)])]) (by kernel_rfl) (by kernel_rfl) hc1 ?_
    refine S_pure (v := .int .i64 (.ofNat 3)) (by kernel_rfl) (by kernel_rfl) ?_
    refine S_pure (v := .int .i64 (.ofNat (48 + 3))) (by kernel_rfl) (by kernel_rfl) ?_
    refine S_pure (v := .int .u8 (.ofNat (48 + 3))) (by kernel_rfl) (by kernel_rfl) ?_
    refine S_op (v := .slice (some ⟨H1.length, 0, none⟩) 1 1) (H1 := H1 ++ [B]) (by kernel_rfl) (by kernel_rfl) ?_
    refine S_pure2 (v := str [UInt8.ofNat (48 + 3)]) (acc := [H1.length]) (by kernel_rfl) (by unfold semiChk; simp only [List.all_cons, List.all_nil, List.contains_nil, Bool.and_true, hle, Bool.or_true]) (by kernel_rfl) (prim_conv (by kernel_rfl)) ?_
    refine S_pure (v := str (sOk ++ [UInt8.ofNat (48 + 3)])) (by kernel_rfl) (by kernel_rfl) ?_
    refine S_pure (v := .bool false) (by kernel_rfl) (by kernel_rfl) ?_
    refine S_nil ⟨by kernel_rfl, ?_⟩
    refine W_forget [(3, p c 0), (4, str sW), (5, .int .i64 (.ofNat n)), (12, .slice (some ⟨b, o, none⟩) len cap), (13, .int .i64 (.ofNat len)), (14, .int .i64 (.ofNat j)), (7, .int .i64 (.ofNat 3)), (39, .bool false)] ⟨by kernel_rfl, by kernel_rfl, by kernel_rfl, by kernel_rfl, by kernel_rfl, by kernel_rfl, by kernel_rfl, by kernel_rfl, trivial⟩ fun u => ?_
    refine W_false rfl ?_
    refine W_skip ?_
    refine W_reg (List.replicate 4 true) [] (.inr ⟨rfl, by kernel_rfl⟩) ?_
    refine D_pure (v := .int .i64 (.ofNat n)) (by kernel_rfl) (by kernel_rfl) ?_
    refine D_pure (v := .int .i64 (.ofNat 3)) (by kernel_rfl) (by kernel_rfl) ?_
    refine D_opw (v := .int .i64 (.ofNat (n + 3))) (v' := .int .i64 (IntKind.i64.wrap (Int.ofNat n + Int.ofNat 3))) (by kernel_rfl) (by kernel_rfl) (by rw [show Int.ofNat n + Int.ofNat 3 = Int.ofNat (n + 3) from rfl, wrapI (n + 3) (by omega)]) ?_
    refine D_pure (v := .int .i64 (.ofNat (n + 3))) (by kernel_rfl) (by kernel_rfl) ?_
    refine D_nil ⟨by kernel_rfl, ?_⟩
    refine W_forget [(3, p c 0), (4, str sW), (5, .int .i64 (.ofNat (n + 3))), (12, .slice (some ⟨b, o, none⟩) len cap), (13, .int .i64 (.ofNat len)), (14, .int .i64 (.ofNat j))] ⟨by kernel_rfl, by kernel_rfl, by kernel_rfl, by kernel_rfl, by kernel_rfl, by kernel_rfl, trivial⟩ fun u => ?_
    refine W_reg (List.replicate 2 true) [] (.inr ⟨rfl, by kernel_rfl⟩) ?_
    refine D_opw (v := .int .i64 (.ofNat (j + 1))) (v' := .int .i64 (IntKind.i64.wrap (Int.ofNat j + 1))) (by kernel_rfl) (by kernel_rfl) (by rw [show Int.ofNat j + 1 = Int.ofNat (j + 1) from rfl, wrapI (j + 1) (by omega)]) ?_
    refine D_pure (v := .int .i64 (.ofNat (j + 1))) (by kernel_rfl) (by kernel_rfl) ?_
    refine D_nil ⟨by kernel_rfl, ?_⟩
    refine ⟨13 - (j + 1), by omega, j + 1, n + 3, rfl, by omega, by omega, by omega, hs1.push [B], hl1.push (by omega) B, by simp; omega, ⟨by kernel_rfl, by kernel_rfl, by kernel_rfl, by kernel_rfl, by kernel_rfl, by kernel_rfl, trivial⟩⟩

theorem prim_cat {fl : Nat} {H : AHeap} {t : Temps} {x y : Operand} {l m : List UInt8} (hx : eval t x = str l) (hy : eval t y = str m) (h : l.length + m.length ≤ 1000) :
    prim Go.Proofs.Tryz.prog fl (.binOp .add 9 x y 9) (eval t) H = some (.value (str (l ++ m)), H) := by
  have h1 : aBin .add (str l) (str m) = some (str (l ++ m)) := by
    unfold aBin str
    simp only
    rw [if_pos (by show l.length + m.length ≤ 2 ^ 60; omega), bytes_app]
  have h2 : bin2A Go.Proofs.Tryz.prog .add 9 (isConst x || isConst y) (str l) (str m) = some (str (l ++ m)) := by
    unfold bin2A
    rw [h1]
    rfl
  simp only [prim, hx, hy, h2, Option.map_some]
def pre (n : Nat) : List UInt8 := if 10 ≤ n then [UInt8.ofNat (48 + n / 10)] else []
theorem pre_digs (n : Nat) : pre n ++ [UInt8.ofNat (48 + n % 10)] = digs n := by
  unfold pre digs
  by_cases h : 10 ≤ n
  · rw [if_pos h, show Nat.blt n 10 = false by
      cases hb : Nat.blt n 10 with
      | false => rfl
      | true => exact absurd (by simpa [Nat.blt_eq] using hb) (by omega : ¬ n < 10)]
    rfl
  · rw [if_neg h, show Nat.blt n 10 = true by simp [Nat.blt_eq]; omega, Nat.mod_eq_of_lt (by omega)]
    rfl
theorem len_le {call : Caller} (hT : Told call) {fl : Nat} {f : FuncId} {args : Array Value} {H H' : AHeap} {v : Value} (h : call fl f args H = some (v, H')) (hfl : fl ≤ H.length) : fl ≤ H'.length :=
  Nat.le_trans hfl (hT.kept _ _ _ _ _ _ h).len

/-- The law's text comes to true. -/
theorem law_W {call : Caller} (hT : Told call) {fl base : Nat} (hbf : base ≤ fl) {a : Option Addr} {len cap : Nat} {zs : List Int} {H : AHeap} (hl : LR H a len base zs) (hfl : fl ≤ H.length) :
    ∃ c, bod Go.Proofs.Tryz.f3 = some c ∧ W Go.Proofs.Tryz.prog call fl c (start #[.slice a len cap]) H (fun e t' H' => match e with
      | .normal | .ret => resultAll Go.Proofs.Tryz.prog t' H' Go.Proofs.Tryz.f3.results.toList = some [.bool true]
      | _ => False) := by
  refine ⟨_, rfl, ?_⟩
  refine W_forget [(0, .slice a len cap)] ⟨by kernel_rfl, trivial⟩ fun u => ?_
  refine W_seq ?_
  refine W_reg (List.replicate 1 true) [] (.inr ⟨rfl, by kernel_rfl⟩) ?_
  refine D_pure (v := .bool false) (by kernel_rfl) (by kernel_rfl) ?_
  refine D_nil ⟨by kernel_rfl, ?_⟩
  refine W_forget [(0, .slice a len cap)] ⟨by kernel_rfl, trivial⟩ fun u => ?_
  refine W_seq ?_
  obtain ⟨c, H1, c1, s1⟩ := hT.new fl H hfl
  have f1 := len_le hT c1 hfl
  have l1 := hl.kept hbf hfl (hT.kept _ _ _ _ _ _ c1)
  refine W_reg (List.replicate 2 true) [] (.inr ⟨rfl, by kernel_rfl⟩) ?_
  refine D_call true rfl (by kernel_rfl) (f := 4) (args := #[]) (by kernel_rfl) ⟨_, _, c1, ?_⟩
  refine D_pure (v := p c 0) (by kernel_rfl) (by kernel_rfl) ?_
  refine D_nil ⟨by kernel_rfl, ?_⟩
  refine W_forget [(0, .slice a len cap), (3, p c 0)] ⟨by kernel_rfl, by kernel_rfl, trivial⟩ fun u => ?_
  refine W_seq ?_
  obtain ⟨H2, c2, s2⟩ := hT.wts fl H1 c s1 f1
  have f2 := len_le hT c2 f1
  have l2 := l1.kept hbf f1 (hT.kept _ _ _ _ _ _ c2)
  refine W_reg (List.replicate 3 true) [] (.inr ⟨rfl, by kernel_rfl⟩) ?_
  refine D_pure (v := p c 0) (by kernel_rfl) (by kernel_rfl) ?_
  refine D_call true rfl (by kernel_rfl) (f := LN) (args := #[p c 0, str sWts]) (by kernel_rfl) ⟨_, _, c2, ?_⟩
  refine D_pure (v := str sW) (by kernel_rfl) (by kernel_rfl) ?_
  refine D_nil ⟨by kernel_rfl, ?_⟩
  refine W_forget [(0, .slice a len cap), (3, p c 0), (4, str sW)] ⟨by kernel_rfl, by kernel_rfl, by kernel_rfl, trivial⟩ fun u => ?_
  refine W_seq ?_
  refine W_reg (List.replicate 1 true) [] (.inr ⟨rfl, by kernel_rfl⟩) ?_
  refine D_pure (v := .int .i64 (.ofNat 0)) (by kernel_rfl) (by kernel_rfl) ?_
  refine D_nil ⟨by kernel_rfl, ?_⟩
  refine W_forget [(0, .slice a len cap), (3, p c 0), (4, str sW), (5, .int .i64 (.ofNat 0))] ⟨by kernel_rfl, by kernel_rfl, by kernel_rfl, by kernel_rfl, trivial⟩ fun u => ?_
  refine W_seq ?_
  refine W_seq ?_
  refine W_reg (List.replicate 3 true) [] (.inr ⟨rfl, by kernel_rfl⟩) ?_
  refine D_pure (v := .slice a len cap) (by kernel_rfl) (by kernel_rfl) ?_
  refine D_pure (v := .int .i64 (.ofNat len)) (by kernel_rfl) (by kernel_rfl) ?_
  refine D_pure (v := .int .i64 (.ofNat 0)) (by kernel_rfl) (by kernel_rfl) ?_
  refine D_nil ⟨by kernel_rfl, ?_⟩
  refine W_forget [(3, p c 0), (4, str sW), (5, .int .i64 (.ofNat 0)), (12, .slice a len cap), (13, .int .i64 (.ofNat len)), (14, .int .i64 (.ofNat 0))] ⟨by kernel_rfl, by kernel_rfl, by kernel_rfl, by kernel_rfl, by kernel_rfl, by kernel_rfl, trivial⟩ fun u => ?_
  refine W.mono (Q := fun e t1 H1 => e = .normal ∧ Done0 fl c t1 H1) ?_ ?_
  · refine W_block ?_
    refine W_loop (Head fl base a len cap zs c) 13 ⟨0, 0, rfl, by omega, by omega, by omega, s2, l2, f2, ⟨by kernel_rfl, by kernel_rfl, by kernel_rfl, by kernel_rfl, by kernel_rfl, by kernel_rfl, trivial⟩⟩ fun k t H hI => ?_
    refine (round_W hT hbf (x := _) rfl k t H hI).mono ?_
    intro e t1 H1 h
    cases e with
    | normal => exact h
    | exit id' => exact h
    | goto l => exact h.elim
    | ret => exact h.elim
  rintro e t1 H ⟨rfl, n, hn, hs, hfl, hk⟩
  refine W_forget _ hk fun u => ?_
  refine W_seq ?_
  refine W_reg (List.replicate 1 true) [] (.inr ⟨rfl, by kernel_rfl⟩) ?_
  refine D_pure (v := str []) (by kernel_rfl) (by kernel_rfl) ?_
  refine D_nil ⟨by kernel_rfl, ?_⟩
  refine W_forget [(3, p c 0), (4, str sW), (5, .int .i64 (.ofNat n)), (8, str [])] ⟨by kernel_rfl, by kernel_rfl, by kernel_rfl, by kernel_rfl, trivial⟩ fun u => ?_
  refine W_seq (W.mono (Q := fun e t1 H1 => e = .normal ∧ fl ≤ H1.length ∧ St n c fl H1 ∧ KeepAll t1 [(3, p c 0), (4, str sW), (5, .int .i64 (.ofNat n)), (8, str (pre n))]) ?_ ?_)
  · refine W_seq ?_
    refine W_reg (List.replicate 2 true) [] (.inr ⟨rfl, by kernel_rfl⟩) ?_
    refine D_pure (v := .int .i64 (.ofNat n)) (by kernel_rfl) (by kernel_rfl) ?_
    refine D_pure (v := .bool (decide ((10 : Int) ≤ Int.ofNat n))) (by kernel_rfl) (by kernel_rfl) ?_
    refine D_nil ⟨by kernel_rfl, ?_⟩
    refine W_forget [(3, p c 0), (4, str sW), (5, .int .i64 (.ofNat n)), (8, str []), (45, .bool (decide ((10 : Int) ≤ Int.ofNat n)))] ⟨by kernel_rfl, by kernel_rfl, by kernel_rfl, by kernel_rfl, by kernel_rfl, trivial⟩ fun u => ?_
    by_cases h10 : 10 ≤ n
    · refine W_true (show Value.bool (decide ((10 : Int) ≤ Int.ofNat n)) = .bool true by rw [decide_eq_true (by rw [ofN]; omega)]) ?_
      have hp : pre n = [UInt8.ofNat (48 + n / 10)] := if_pos h10
      refine W_reg (List.replicate 7 true) [] (.inr ⟨rfl, by kernel_rfl⟩) ?_
      refine D_pure (v := .int .i64 (.ofNat n)) (by kernel_rfl) (by kernel_rfl) ?_
      refine D_opw (v := .int .i64 (.ofNat (n / 10))) (v' := .int .i64 (IntKind.i64.wrap (Int.tdiv (Int.ofNat n) 10))) (by kernel_rfl) (by kernel_rfl) (by rw [show Int.tdiv (Int.ofNat n) 10 = Int.ofNat (n / 10) from rfl, wrapI _ (by omega)]) ?_
      refine D_opw (v := .int .i64 (.ofNat (48 + n / 10))) (v' := .int .i64 (IntKind.i64.wrap (48 + Int.ofNat (n / 10)))) (by kernel_rfl) (by kernel_rfl) (by rw [show (48 : Int) + Int.ofNat (n / 10) = Int.ofNat (48 + n / 10) from rfl, wrapI _ (by omega)]) ?_
      refine D_opw (v := .int .u8 (.ofNat (48 + n / 10))) (v' := .int .u8 (IntKind.u8.wrap (.ofNat (48 + n / 10)))) (by kernel_rfl) (by kernel_rfl) (by rw [wrapU8 _ (by omega)]) ?_
      refine D_op (v := .slice (some ⟨H.length, 0, none⟩) 1 1) (H1 := H ++ [⟨[.int .u8 (.ofNat (48 + n / 10))], 1, true, true⟩]) (by kernel_rfl) (by kernel_rfl) ?_
      refine D_pure (v := str [UInt8.ofNat (48 + n / 10)]) (by kernel_rfl) (prim_conv (by kernel_rfl)) ?_
      refine D_pure (v := str [UInt8.ofNat (48 + n / 10)]) (by kernel_rfl) (by kernel_rfl) ?_
      refine D_nil ⟨by kernel_rfl, rfl, by simp; omega, hs.push _, ?_⟩
      rw [hp]
      exact ⟨by kernel_rfl, by kernel_rfl, by kernel_rfl, by kernel_rfl, trivial⟩
    · refine W_false (show Value.bool (decide ((10 : Int) ≤ Int.ofNat n)) = .bool false by rw [decide_eq_false (by rw [ofN]; omega)]) ?_
      have hp : pre n = [] := if_neg h10
      refine W_skip ⟨rfl, hfl, hs, ?_⟩
      rw [hp]
      exact ⟨by kernel_rfl, by kernel_rfl, by kernel_rfl, by kernel_rfl, trivial⟩
  rintro e t1 H ⟨rfl, hfl, hs, hk⟩
  refine W_forget _ hk fun u => ?_
  have hpl : (pre n).length ≤ 1 := by unfold pre; split <;> simp
  refine W_seq ?_
  refine W_reg (List.replicate 9 true) [] (.inr ⟨rfl, by kernel_rfl⟩) ?_
  refine D_pure (v := str (pre n)) (by kernel_rfl) (by kernel_rfl) ?_
  refine D_pure (v := .int .i64 (.ofNat n)) (by kernel_rfl) (by kernel_rfl) ?_
  refine D_pure (v := .int .i64 (.ofNat (n % 10))) (by kernel_rfl) (by kernel_rfl) ?_
  refine D_opw (v := .int .i64 (.ofNat (48 + n % 10))) (v' := .int .i64 (IntKind.i64.wrap (48 + Int.ofNat (n % 10)))) (by kernel_rfl) (by kernel_rfl) (by rw [show (48 : Int) + Int.ofNat (n % 10) = Int.ofNat (48 + n % 10) from rfl, wrapI _ (by omega)]) ?_
  refine D_opw (v := .int .u8 (.ofNat (48 + n % 10))) (v' := .int .u8 (IntKind.u8.wrap (.ofNat (48 + n % 10)))) (by kernel_rfl) (by kernel_rfl) (by rw [wrapU8 _ (by omega)]) ?_
  refine D_op (v := .slice (some ⟨H.length, 0, none⟩) 1 1) (H1 := H ++ [⟨[.int .u8 (.ofNat (48 + n % 10))], 1, true, true⟩]) (by kernel_rfl) (by kernel_rfl) ?_
  refine D_pure (v := str [UInt8.ofNat (48 + n % 10)]) (by kernel_rfl) (prim_conv (by kernel_rfl)) ?_
  refine D_pure (v := str (digs n)) (by kernel_rfl) (by rw [← pre_digs]; exact prim_cat (by kernel_rfl) (by kernel_rfl) (by simp; omega)) ?_
  refine D_pure (v := str (digs n)) (by kernel_rfl) (by kernel_rfl) ?_
  refine D_nil ⟨by kernel_rfl, ?_⟩
  refine W_forget [(3, p c 0), (4, str sW), (8, str (digs n))] ⟨by kernel_rfl, by kernel_rfl, by kernel_rfl, trivial⟩ fun u => ?_
  have hs := hs.push [⟨[.int .u8 (.ofNat (48 + n % 10))], 1, true, true⟩]
  have hfl : fl ≤ (H ++ [(⟨[.int .u8 (.ofNat (48 + n % 10))], 1, true, true⟩ : Blk)]).length := by simp; omega
  obtain ⟨Ha, ca, sa⟩ := hT.step fl _ c n hn hs hfl
  have fa := len_le hT ca hfl
  obtain ⟨Hb, cb, sb⟩ := hT.saved fl _ c n hn sa fa
  have fb := len_le hT cb fa
  obtain ⟨Hc, cc, sc⟩ := hT.crash fl _ c n hn sb fb
  have fc := len_le hT cc fb
  obtain ⟨Hd, cd, sd⟩ := hT.step2 fl _ c sc fc
  have fd := len_le hT cd fc
  obtain ⟨He, ce, se⟩ := hT.wts2 fl _ c sd fd
  refine W_seq ?_
  refine W_reg (List.replicate 29 true) [] (.inr ⟨rfl, by kernel_rfl⟩) ?_
  refine D_pure (v := p c 0) (by kernel_rfl) (by kernel_rfl) ?_
  refine D_call true rfl (by kernel_rfl) (f := LN) (args := #[p c 0, str sStep]) (by kernel_rfl) ⟨_, _, ca, ?_⟩
  refine D_pure (v := str (digs n)) (by kernel_rfl) (by kernel_rfl) ?_
  refine D_opw (v := .bool true) (v' := .bool ((⟨⟨digs n⟩⟩ : ByteArray).toList == (⟨⟨digs n⟩⟩ : ByteArray).toList)) (by kernel_rfl) (by kernel_rfl) (by rw [beq_self_eq_true]) ?_
  refine D_pure (v := .bool true) (by kernel_rfl) (by kernel_rfl) ?_
  refine D_pure (v := p c 0) (by kernel_rfl) (by kernel_rfl) ?_
  refine D_call true rfl (by kernel_rfl) (f := LN) (args := #[p c 0, str sSaved]) (by kernel_rfl) ⟨_, _, cb, ?_⟩
  refine D_pure (v := .bool true) (by kernel_rfl) (by kernel_rfl) ?_
  refine D_pure (v := .bool true) (by kernel_rfl) (by kernel_rfl) ?_
  refine D_pure (v := .bool true) (by kernel_rfl) (by kernel_rfl) ?_
  refine D_pure (v := p c 0) (by kernel_rfl) (by kernel_rfl) ?_
  refine D_call true rfl (by kernel_rfl) (f := LN) (args := #[p c 0, str sCrash]) (by kernel_rfl) ⟨_, _, cc, ?_⟩
  refine D_pure (v := .bool true) (by kernel_rfl) (by kernel_rfl) ?_
  refine D_pure (v := .bool true) (by kernel_rfl) (by kernel_rfl) ?_
  refine D_pure (v := .bool true) (by kernel_rfl) (by kernel_rfl) ?_
  refine D_pure (v := p c 0) (by kernel_rfl) (by kernel_rfl) ?_
  refine D_call true rfl (by kernel_rfl) (f := LN) (args := #[p c 0, str sStep]) (by kernel_rfl) ⟨_, _, cd, ?_⟩
  refine D_pure (v := .bool true) (by kernel_rfl) (by kernel_rfl) ?_
  refine D_pure (v := .bool true) (by kernel_rfl) (by kernel_rfl) ?_
  refine D_pure (v := .bool true) (by kernel_rfl) (by kernel_rfl) ?_
  refine D_pure (v := p c 0) (by kernel_rfl) (by kernel_rfl) ?_
  refine D_call true rfl (by kernel_rfl) (f := LN) (args := #[p c 0, str sWts]) (by kernel_rfl) ⟨_, _, ce, ?_⟩
  refine D_pure (v := str sW) (by kernel_rfl) (by kernel_rfl) ?_
  refine D_pure (v := .bool true) (by kernel_rfl) (by kernel_rfl) ?_
  refine D_pure (v := .bool true) (by kernel_rfl) (by kernel_rfl) ?_
  refine D_pure (v := .bool true) (by kernel_rfl) (by kernel_rfl) ?_
  refine D_call true rfl (by kernel_rfl) (f := extW) (args := #[]) (by kernel_rfl) ⟨_, _, hT.awake fl He, ?_⟩
  refine D_pure (v := .bool true) (by kernel_rfl) (by kernel_rfl) ?_
  refine D_pure (v := .bool true) (by kernel_rfl) (by kernel_rfl) ?_
  refine D_nil ⟨by kernel_rfl, ?_⟩
  refine W_ret ?_
  show resultAll _ _ _ _ = some [.bool true]
  kernel_rfl
end Go.Mach.J
