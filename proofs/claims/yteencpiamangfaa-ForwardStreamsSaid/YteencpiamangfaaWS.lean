/- What the small functions of chapter 8 come to, behind doors. Laws; no condition. -/
import Derived.Test.YteencpiamangfaaWB
import Derived.Test.YteencpiamangfaaF3
namespace Go.Proofs.Yteencpiamangfaa
open Go.Mach Go.RowKit
set_option maxRecDepth 100000
set_option linter.unusedVariables false
set_option linter.unusedSimpArgs false

theorem u8_rng (x : Int) : 0 ≤ IntKind.u8.wrap x ∧ IntKind.u8.wrap x < 256 := by
  simp only [IntKind.wrap, IntKind.bits, IntKind.signed]
  simp
  omega

theorem greater_rng {a b lo hi : Int} (h1 : lo ≤ a ∧ a ≤ hi) (h2 : lo ≤ b ∧ b ≤ hi) : lo ≤ greater a b ∧ greater a b ≤ hi := by
  unfold greater
  split <;> assumption

def shF (a : Int) : Int := greater 0 (smaller a 62)
theorem shF_rng (a : Int) : 0 ≤ shF a ∧ shF a ≤ 62 := by
  unfold shF greater smaller
  split <;> split <;> omega
def b32 (a : Int) : Int := greater 1 (smaller a 32)
theorem b32_rng (a : Int) : 1 ≤ b32 a ∧ b32 a ≤ 32 := by
  unfold b32 greater smaller
  split <;> split <;> omega
def topF (a : Int) : Int := IntKind.i64.wrap ((IntKind.i64.wrap (1 * 2 ^ (min (IntKind.i64.wrap (b32 a - 1)).toNat (IntKind.i64).bits))) - 1)
def clF (a b : Int) : Int := greater (IntKind.i64.wrap (0 - topF b)) (smaller (valF a) (topF b))
theorem shift_v {a : Int} {Q : Int → Prop} (h : Q (shF a)) : round_shift a Q := ⟨btw_v h⟩
theorem clamp_v {a b : Int} {Q : Int → Prop} (h : Q (clF a b)) : round_Clamp a b Q := by
  refine ⟨btw_v ⟨?_, val_v (btw64_v h)⟩⟩
  have := b32_rng b
  show 0 ≤ IntKind.i64.wrap (b32 b - 1)
  rw [wrap_i64 _ (by omega) (by omega)]
  omega
theorem valF_rng (a : Int) : -4611686018427387904 ≤ valF a ∧ valF a ≤ 4611686018427387904 := by
  unfold valF greater smaller
  split <;> split <;> omega
def chF (a s r : Int) : Int := (IntKind.i64.wrap (valF a + (IntKind.i64.wrap (IntKind.u64.wrap ((BitVec.ofInt (IntKind.u64).bits r &&& BitVec.ofInt (IntKind.u64).bits (IntKind.u64.wrap ((IntKind.u64.wrap (1 * 2 ^ (min (shF s).toNat (IntKind.u64).bits))) - 1))).toNat : Nat))))).fdiv (2 ^ (min (shF s).toNat (IntKind.i64).bits))
theorem chance_v {a s r : Int} {Q : Int → Prop} (h : Q (chF a s r)) : round_Chance a s r Q := ⟨shift_v (val_v ⟨(shF_rng s).1, (shF_rng s).1, h⟩)⟩
theorem chF_zero {a r : Int} : chF a 0 r = valF a := by
  have e : BitVec.ofInt (IntKind.u64).bits (IntKind.u64.wrap ((IntKind.u64.wrap (1 * 2 ^ (min (shF 0).toNat (IntKind.u64).bits))) - 1)) = 0#(IntKind.u64).bits := by decide +kernel
  have e2 : (2 : Int) ^ (min (shF 0).toNat (IntKind.i64).bits) = 1 := by decide +kernel
  unfold chF
  rw [e, e2, BitVec.and_zero]
  have h := valF_rng a
  have e3 : IntKind.i64.wrap (IntKind.u64.wrap ((0#(IntKind.u64).bits).toNat : Nat)) = 0 := by decide +kernel
  rw [e3, Int.add_zero, wrap_i64 _ (by omega) (by omega), Int.fdiv_one]

def l31 (x n : Int) : Int := IntKind.i64.wrap (n + (IntKind.i64.wrap ((sc_14a5d850.data.toList.getD (IntKind.u8.wrap x).toNat 0).toNat : Nat)))
def l15 (x n : Int) : Int := if 256 ≤ x then l31 (x.fdiv (2 ^ (min ((8 : Int)).toNat (IntKind.u64).bits))) (IntKind.i64.wrap (n + 8)) else l31 x n
def l7 (x n : Int) : Int := if 65536 ≤ x then l15 (x.fdiv (2 ^ (min ((16 : Int)).toNat (IntKind.u64).bits))) (IntKind.i64.wrap (n + 16)) else l15 x n
def lenF (x : Int) : Int := if 4294967296 ≤ x then l7 (x.fdiv (2 ^ (min ((32 : Int)).toNat (IntKind.u64).bits))) 32 else l7 x 0
theorem tab_le : ∀ i : Fin 256, (sc_14a5d850.data.toList.getD i.1 0).toNat ≤ 8 := by decide +kernel
theorem sc_size : sc_14a5d850.size = 256 := by decide +kernel
theorem l31_v {x n : Int} {K : Int → Prop} (h : K (l31 x n)) : math_bits_Len64_n2 x n K := by
  refine ⟨⟨?_, h⟩⟩
  rw [sc_size]
  exact ⟨(u8_rng x).1, (u8_rng x).2⟩
theorem l31_rng {x n : Int} (h0 : 0 ≤ n) (h1 : n ≤ 56) : 0 ≤ l31 x n ∧ l31 x n ≤ n + 8 := by
  have h := u8_rng x
  have ht := tab_le ⟨(IntKind.u8.wrap x).toNat, by omega⟩
  simp only at ht
  unfold l31
  generalize (sc_14a5d850.data.toList.getD (IntKind.u8.wrap x).toNat 0).toNat = m at ht ⊢
  rw [wrap_i64 (m : Int) (by omega) (by omega), wrap_i64 _ (by omega) (by omega)]
  omega
theorem l15_v {x n : Int} {K : Int → Prop} (h : K (l15 x n)) : math_bits_Len64_n1 x n K := by
  refine ⟨?_⟩
  unfold math_bits_Len64_n1_t
  unfold l15 at h
  by_cases e : 256 ≤ x
  · rw [if_pos e] at h
    rw [if_pos (by simpa using e)]
    exact ⟨by decide, l31_v h⟩
  · rw [if_neg e] at h
    rw [if_neg (by simpa using e)]
    exact l31_v h
theorem l15_rng {x n : Int} (h0 : 0 ≤ n) (h1 : n ≤ 48) : 0 ≤ l15 x n ∧ l15 x n ≤ n + 16 := by
  unfold l15
  split
  · rw [wrap_i64 _ (by omega) (by omega)]
    have := l31_rng (x := x.fdiv (2 ^ (min ((8 : Int)).toNat (IntKind.u64).bits))) (n := n + 8) (by omega) (by omega)
    omega
  · have := l31_rng (x := x) (n := n) (by omega) (by omega)
    omega
theorem l7_v {x n : Int} {K : Int → Prop} (h : K (l7 x n)) : math_bits_Len64_n0 x n K := by
  refine ⟨?_⟩
  unfold math_bits_Len64_n0_t
  unfold l7 at h
  by_cases e : 65536 ≤ x
  · rw [if_pos e] at h
    rw [if_pos (by simpa using e)]
    exact ⟨by decide, l15_v h⟩
  · rw [if_neg e] at h
    rw [if_neg (by simpa using e)]
    exact l15_v h
theorem l7_rng {x n : Int} (h0 : 0 ≤ n) (h1 : n ≤ 32) : 0 ≤ l7 x n ∧ l7 x n ≤ n + 32 := by
  unfold l7
  split
  · rw [wrap_i64 _ (by omega) (by omega)]
    have := l15_rng (x := x.fdiv (2 ^ (min ((16 : Int)).toNat (IntKind.u64).bits))) (n := n + 16) (by omega) (by omega)
    omega
  · have := l15_rng (x := x) (n := n) (by omega) (by omega)
    omega
theorem len_v {x : Int} {K : Int → Prop} (h : K (lenF x)) : math_bits_Len64 x K := by
  refine ⟨?_⟩
  unfold math_bits_Len64_t
  unfold lenF at h
  by_cases e : 4294967296 ≤ x
  · rw [if_pos e] at h
    rw [if_pos (by simpa using e)]
    exact ⟨by decide, l7_v h⟩
  · rw [if_neg e] at h
    rw [if_neg (by simpa using e)]
    exact l7_v h
theorem lenF_rng (x : Int) : 0 ≤ lenF x ∧ lenF x ≤ 64 := by
  unfold lenF
  split
  · exact l7_rng (by omega) (by omega)
  · have := l7_rng (x := x) (n := 0) (by omega) (by omega)
    omega
def bitF (a : Int) : Int := lenF (IntKind.u64.wrap (greater (valF a) (IntKind.i64.wrap (0 - valF a))))
theorem bits_v {a : Int} {Q : Int → Prop} (h : Q (bitF a)) : round_Bits a Q := ⟨val_v (len_v (K := Q) h)⟩
theorem mix_ex (a : Int) : ∃ v, ∀ Q : Int → Prop, Q v → prng_Mix a Q := ⟨_, fun Q h => ⟨⟨by decide, by decide, by decide, h⟩⟩⟩
theorem at_ex (a b c : Int) : ∃ v, ∀ Q : Int → Prop, Q v → prng_At a b c Q := by
  obtain ⟨v1, h1⟩ := mix_ex a
  obtain ⟨v2, h2⟩ := mix_ex (IntKind.u64.wrap ((BitVec.ofInt (IntKind.u64).bits v1 ^^^ BitVec.ofInt (IntKind.u64).bits b).toNat : Nat))
  obtain ⟨v3, h3⟩ := mix_ex (IntKind.u64.wrap ((BitVec.ofInt (IntKind.u64).bits v2 ^^^ BitVec.ofInt (IntKind.u64).bits c).toNat : Nat))
  exact ⟨v3, fun Q h => ⟨h1 _ (h2 _ (h3 _ h))⟩⟩
noncomputable def atF (a b c : Int) : Int := Classical.choose (at_ex a b c)
theorem at_v {a b c : Int} {Q : Int → Prop} (h : Q (atF a b c)) : prng_At a b c Q := Classical.choose_spec (at_ex a b c) Q h

def mayAccF (a : List Int × Int × List Int) : Bool := (decide (0 < szF a.1) && ((a.2.2.length : Int) == szF a.1)) && expF a.2.1 128
theorem mayAcc_v {a : List Int × Int × List Int} {Q : Bool → Prop} (h : Q (mayAccF a)) : tensor_MayAcc a Q := by
  refine ⟨may_v ?_⟩
  unfold jn
  dsimp only
  unfold mayAccF at h
  cases hb : decide (0 < szF a.1) with
  | true =>
    rw [hb] at h
    rw [if_pos rfl]
    refine size_v ?_
    cases hc : ((a.2.2.length : Int) == szF a.1) with
    | true =>
      rw [hc] at h
      rw [if_pos rfl]
      exact exp_v h
    | false =>
      rw [hc] at h
      rw [if_neg (by simp)]
      exact h
  | false =>
    rw [hb] at h
    rw [if_neg (by simp), if_neg (by simp)]
    exact h
theorem mayAccF_len {a : List Int × Int × List Int} (h : mayAccF a = true) : 0 < szF a.1 ∧ (a.2.2.length : Int) = szF a.1 ∧ a.1 ≠ [] ∧ a.1.length ≤ 4 ∧ a.2.2.length ≤ 8192 := by
  unfold mayAccF at h
  simp only [Bool.and_eq_true, decide_eq_true_eq, beq_iff_eq] at h
  obtain ⟨⟨h1, h2⟩, _⟩ := h
  have h3 := szF_le a.1
  refine ⟨h1, h2, ?_, ?_, by omega⟩
  · intro e; rw [e] at h1; exact absurd h1 (by decide)
  · unfold szF at h1
    split at h1
    · omega
    · rename_i hn
      simp only [Bool.or_eq_true, decide_eq_true_eq, not_or] at hn
      omega

def wideF (l : List Int) : Int := l.foldl (fun m x => greater m (bitF (IntKind.i64.wrap x))) 0
theorem wideF_take (l : List Int) (i : Nat) (h : i < l.length) : wideF (l.take (i + 1)) = greater (wideF (l.take i)) (bitF (IntKind.i64.wrap (l.getD i 0))) := by
  unfold wideF
  rw [List.take_add_one, List.foldl_append, List.getD_eq_getElem?_getD, List.getElem?_eq_getElem h]
  rfl
theorem wideF_rng (l : List Int) : 0 ≤ wideF l ∧ wideF l ≤ 64 := by
  have : ∀ (l : List Int) (m : Int), 0 ≤ m → m ≤ 64 → 0 ≤ l.foldl (fun m x => greater m (bitF (IntKind.i64.wrap x))) m ∧ l.foldl (fun m x => greater m (bitF (IntKind.i64.wrap x))) m ≤ 64 := by
    intro l
    induction l with
    | nil => exact fun m h1 h2 => ⟨h1, h2⟩
    | cons x l ih =>
      intro m h1 h2
      refine ih _ ?_ ?_
      · exact (greater_rng ⟨h1, h2⟩ (lenF_rng _)).1
      · exact (greater_rng ⟨h1, h2⟩ (lenF_rng _)).2
  exact this l 0 (by omega) (by omega)
def widthF (a : List Int × Int × List Int) : Int := if mayAccF a = true then wideF a.2.2 else 0
theorem width_v {a : List Int × Int × List Int} {Q : Int → Prop} (h : Q (widthF a)) : tensor_Width a Q := by
  refine ⟨mayAcc_v (a := a) ?_⟩
  unfold widthF at h
  cases hm : mayAccF a with
  | false =>
    rw [hm] at h
    exact h
  | true =>
    rw [hm, if_pos rfl] at h
    rw [if_neg (by simp)]
    obtain ⟨_, _, _, _, hlen⟩ := mayAccF_len hm
    refine ⟨?_⟩
    refine Loop.range (B := tensor_Width_n0_B a.2.2 (a.2.2.length : Int) fun y => Q y) a.2.2.length (fun i => (wideF (a.2.2.take i), (i : Int))) (fun _ => True) trivial ?_ ?_
    · intro i hi _ X hX
      unfold tensor_Width_n0_B
      rw [if_pos (by simpa using hi)]
      refine ⟨by simp only []; omega, bits_v ?_⟩
      have := hX trivial
      rw [wideF_take _ _ hi] at this
      simp only [Int.toNat_natCast]
      rw [wrap_i64 ((i : Int) + 1) (by omega) (by omega)]
      exact this
    · intro _ X
      unfold tensor_Width_n0_B
      rw [if_neg (by simp)]
      simp only [List.take_length]
      exact h

theorem clone_v {a : List Int} {Q : List Int → Prop} (h1 : a.length ≤ 17592186044416) (h : Q a) : slices_Clone_int_int a Q := by
  refine ⟨fun e => (by rw [e] at h; exact h), ?_, h⟩
  simp only [List.length_nil]
  omega
theorem clone8_v {a : List Int} {Q : List Int → Prop} (h1 : a.length ≤ 140737488355328) (h : Q a) : slices_Clone_int8_int8 a Q := by
  refine ⟨fun e => (by rw [e] at h; exact h), ?_, h⟩
  simp only [List.length_nil]
  omega
noncomputable def cellF (b s t sh : Int) (l : List Int) (i : Nat) : Int := IntKind.i8.wrap (clF (chF (IntKind.i64.wrap (l.getD i 0)) sh (atF s t (IntKind.u64.wrap (i : Int)))) b)
noncomputable def dataF (b s t sh : Int) (l : List Int) : List Int := (List.range l.length).map (cellF b s t sh l)
def shiftF (a : List Int × Int × List Int) (b : Int) : Int := greater 0 (IntKind.i64.wrap (widthF a - (IntKind.i64.wrap (b - 1))))
noncomputable def smallF (a : List Int × Int × List Int) (b s t : Int) : (List Int × Int × List Int) × Int :=
  if ((!(mayAccF a) || (decide (b < 2))) || (decide (8 < b))) = true then (([], 0, []), 1)
  else if (!(expF (IntKind.i64.wrap (a.2.1 + shiftF a b)) 64)) = true then (([], 0, []), 3)
  else ((a.1, IntKind.i64.wrap (a.2.1 + shiftF a b), dataF b s t (shiftF a b) a.2.2), 0)
theorem small_v {a : List Int × Int × List Int} {b s t : Int} {Q : ((List Int × Int × List Int) × Int) → Prop} (h : Q (smallF a b s t)) : tensor_Small a b s t Q := by
  refine ⟨?_⟩
  unfold tensor_Small_t
  refine mayAcc_v (a := a) ?_
  unfold smallF at h
  by_cases e : ((!(mayAccF a) || (decide (b < 2))) || (decide (8 < b))) = true
  · rw [if_pos e] at h ⊢; exact h
  · rw [if_neg e] at h ⊢
    have hm : mayAccF a = true := by
      cases hm : mayAccF a with
      | true => rfl
      | false => exfalso; apply e; rw [hm]; rfl
    obtain ⟨_, _, h3, h4, hlen⟩ := mayAccF_len hm
    refine width_v (a := a) (clone_v (by omega) (exp_v ?_))
    show (if (!(expF (IntKind.i64.wrap (a.2.1 + shiftF a b)) 64)) = true then _ else _)
    by_cases e2 : (!(expF (IntKind.i64.wrap (a.2.1 + shiftF a b)) 64)) = true
    · rw [if_pos e2] at h ⊢; exact h
    · rw [if_neg e2] at h ⊢
      refine ⟨?_⟩
      refine Loop.range (B := tensor_Small_n0_B b s t (shiftF a b) a.2.2 (a.2.2.length : Int) _) (f := fun i => ((i : Int), (List.range i).map (cellF b s t (shiftF a b) a.2.2))) a.2.2.length (fun _ => True) trivial ?_ ?_
      · intro i hi _ X hX
        unfold tensor_Small_n0_B
        rw [if_pos (by simpa using hi)]
        refine ⟨by simp only []; omega, at_v (chance_v (clamp_v ⟨?_, ?_⟩))⟩
        · simp only [List.length_map, List.length_range, List.length_singleton]
          omega
        · have := hX trivial
          simp only [List.range_succ, List.map_append, List.map_cons, List.map_nil] at this
          simp only [Int.toNat_natCast]
          rw [wrap_i64 ((i : Int) + 1) (by omega) (by omega)]
          exact this
      · intro _ X
        unfold tensor_Small_n0_B
        rw [if_neg (by simp)]
        exact h


end Go.Proofs.Yteencpiamangfaa
