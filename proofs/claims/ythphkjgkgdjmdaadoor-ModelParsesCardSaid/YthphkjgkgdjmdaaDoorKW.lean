/- The reference's net of a text, whole (ModelParses): KQ KR KY KZ KV KW in one. No condition. -/
import Derived.Test.YthphkjgkgdjmdaaDoorKF
import Derived.Test.YthphkjgkgdjmdaaDoorKB
import Derived.Test.YthphkjgkgdjmdaaDoorKP
namespace Go.Proofs.YthphkjgkgdjmdaaDoor
open Go.Mach
set_option maxRecDepth 100000
set_option linter.unusedVariables false
set_option linter.unusedSimpArgs false

/-! ### Words -/
/-- Cut at a byte, behind what stands of the word already. -/
def splA (c : UInt8) : Bytes → Bytes → List Bytes
  | a, [] => [a]
  | a, x :: r => if x = c then a :: splA c [] r else splA c (a ++ [x]) r
theorem splA_eq (c : UInt8) : ∀ (l a : Bytes), splA c a l = match spl c l with
    | h :: t => (a ++ h) :: t
    | [] => []
  | [], a => by simp [splA, spl]
  | x :: r, a => by
    unfold splA spl
    by_cases hx : x = c
    · rw [if_pos hx, if_pos hx, splA_eq c r []]
      cases hs : spl c r with
      | nil => exact absurd hs (spl_ne c r)
      | cons h t => simp
    · rw [if_neg hx, if_neg hx, splA_eq c r]
      cases hs : spl c r with
      | nil => exact absurd hs (spl_ne c r)
      | cons h t => simp
theorem splA_spl (c : UInt8) (l : Bytes) : splA c [] l = spl c l := by
  rw [splA_eq]
  cases hs : spl c l with
  | nil => exact absurd hs (spl_ne c l)
  | cons h t => simp

theorem rsplit_v {s : ByteArray} {Q : List ByteArray → Prop} (hs : s.size ≤ 1000000) (h : Q ((spl 32 s.data.toList).map B)) : pedagogueref10_split s Q := by
  have hl : s.data.toList.length = s.size := rfl
  rw [← splA_spl] at h
  refine ⟨⟨?_⟩⟩
  refine Loop.inv (fun k st => ∃ (fr i : Nat) (ws : List Bytes), st = ((fr : Int), (i : Int), ws.map B) ∧ i + k = s.size + 2 ∧ (fr ≤ i ∧ i ≤ s.size + 1) ∧ ws.length ≤ i ∧
      (i ≤ s.size → ws ++ splA 32 ((s.data.toList.take i).drop fr) (s.data.toList.drop i) = splA 32 [] s.data.toList) ∧ (i = s.size + 1 → ws = splA 32 [] s.data.toList)) (n := s.size + 2)
    ⟨0, 0, [], rfl, by omega, ⟨by omega, by omega⟩, by simp, fun _ => by simp, fun h => by omega⟩ ?_
  rintro k st X ⟨fr, i, ws, rfl, hk, hf, hwl, hI, hE⟩ hX
  unfold pedagogueref10_split_n0_B
  dsimp only
  have hw : IntKind.i64.wrap ((i : Int) + 1) = ((i + 1 : Nat) : Int) := by
    have : i ≤ s.size + 2 := by omega
    rw [wrap_i64 _ (by omega) (by omega)]; omega
  by_cases hi : i ≤ s.size
  · rw [if_pos (decide_eq_true (by omega))]
    have hI := hI hi
    have hlo : (s.data.toList.take i).length = i := by rw [List.length_take]; omega
    -- a word ends here
    have wend : (i = s.size ∨ s.data.toList.getD i 0 = 32) → ck (True ∧ (0 : Int) ≤ (fr : Int) ∧ (fr : Int) ≤ (i : Int) ∧ (i : Int) ≤ (s.data.toList.length : Int)) (ck (((ws.map B).length + [(⟨((s.data.toList.take ((i : Int)).toNat).drop ((fr : Int)).toNat).toArray⟩ : ByteArray)].length) * 16 ≤ 140737488355328)
        (pedagogueref10_split_n1 (i : Int) (fun (y3 : Int) => X ((IntKind.i64.wrap ((i : Int) + 1)), y3, (ws.map B ++ [(⟨((s.data.toList.take ((i : Int)).toNat).drop ((fr : Int)).toNat).toArray⟩ : ByteArray)]))))) := by
      intro he
      refine ⟨⟨trivial, by omega, by omega, by omega⟩, by simp; omega, ⟨?_⟩⟩
      rw [hw, Int.toNat_natCast, Int.toNat_natCast]
      refine hX (k - 1) _ (by omega) ⟨i + 1, i + 1, ws ++ [(s.data.toList.take i).drop fr], ?_, by omega, ⟨by omega, by omega⟩, by simp; omega, ?_, ?_⟩
      · simp only [List.map_append, List.map_cons, List.map_nil]; rfl
      · intro h2
        have hlt : i < s.data.toList.length := by omega
        have h32 : s.data.toList.getD i 0 = 32 := by
          rcases he with he | he
          · omega
          · exact he
        have hd : s.data.toList.drop i = 32 :: s.data.toList.drop (i + 1) := by
          rw [List.drop_eq_getElem_cons hlt]
          rw [List.getD_eq_getElem?_getD, List.getElem?_eq_getElem hlt] at h32
          have h32 : s.data.toList[i] = 32 := h32
          rw [h32]
        rw [hd] at hI
        simp only [splA, if_true] at hI
        rw [List.append_assoc, List.singleton_append]
        have e0 : (s.data.toList.take (i + 1)).drop (i + 1) = [] := List.drop_of_length_le (by rw [List.length_take]; omega)
        rw [e0]
        exact hI
      · intro h2
        have : s.data.toList.drop i = [] := List.drop_of_length_le (by omega)
        rw [this] at hI
        simp only [splA] at hI
        exact hI
    unfold jn
    dsimp only
    by_cases he : i = s.size
    · rw [if_pos (by simp [he]), if_pos rfl]
      exact wend (.inl he)
    · rw [if_neg (by simp; omega)]
      refine ⟨by omega, ?_⟩
      have hlt : i < s.data.toList.length := by omega
      rw [Int.toNat_natCast]
      by_cases h32 : s.data.toList.getD i 0 = 32
      · rw [if_pos (by rw [h32]; rfl)]
        have := wend (.inr h32)
        rw [Int.toNat_natCast] at this
        exact this
      · rw [if_neg (by
          intro k
          simp only [beq_iff_eq] at k
          refine h32 (UInt8.toNat_inj.1 ?_)
          have e : (32 : UInt8).toNat = 32 := rfl
          omega)]
        refine ⟨?_⟩
        rw [hw]
        refine hX (k - 1) _ (by omega) ⟨fr, i + 1, ws, rfl, by omega, ⟨by omega, by omega⟩, by omega, ?_, fun h2 => by omega⟩
        intro h2
        have hd : s.data.toList.drop i = s.data.toList[i] :: s.data.toList.drop (i + 1) := List.drop_eq_getElem_cons hlt
        have hne : ¬ s.data.toList[i] = 32 := fun e => h32 (by rw [List.getD_eq_getElem?_getD, List.getElem?_eq_getElem hlt]; exact e)
        rw [hd] at hI
        simp only [splA, if_neg hne] at hI
        have e1 : (s.data.toList.take (i + 1)).drop fr = (s.data.toList.take i).drop fr ++ [s.data.toList[i]] := by
          rw [List.take_add_one, List.getElem?_eq_getElem hlt, List.drop_append_of_le_length (by omega)]
          rfl
        rw [e1]
        exact hI
  · rw [if_neg (by simp; omega)]
    rw [← hE (by omega)] at h
    exact h

/-! ### Numbers -/
theorem byte_int {b : UInt8} (h : 48 ≤ b.toNat ∧ b.toNat ≤ 57) : IntKind.i64.wrap (IntKind.u8.wrap ((b.toNat : Int) - 48)) = ((b.toNat - 48 : Nat) : Int) := by
  have e1 : IntKind.u8.wrap ((b.toNat : Int) - 48) = (b.toNat : Int) - 48 := by
    unfold IntKind.wrap IntKind.bits IntKind.signed
    simp
    omega
  rw [e1, wrap_i64 _ (by omega) (by omega)]
  omega
theorem rnumber_v {w : ByteArray} {Q : Int × Bool → Prop} (h : Q (match digF w.data.toList with
    | some n => (n, true)
    | none => (0, false))) : pedagogueref10_number w Q := by
  have hl : w.data.toList.length = w.size := rfl
  refine ⟨?_⟩
  unfold jn
  dsimp only
  have e0 : (w.toList == (⟨#[]⟩ : ByteArray).toList) = decide (w.data.toList = []) := tst w.data.toList []
  rw [e0]
  by_cases h1 : w.data.toList = []
  · rw [if_pos (by simp [h1]), if_pos rfl]
    have : digF w.data.toList = none := by unfold digF; rw [if_neg (fun k => k.1 h1)]
    rw [this] at h; exact h
  by_cases h4 : 4 < w.size
  · rw [if_pos (by simp; omega), if_pos rfl]
    have : digF w.data.toList = none := by unfold digF; rw [if_neg (fun k => by have := k.2.1; omega)]
    rw [this] at h; exact h
  rw [if_neg (by simp [h1]; omega)]
  have hpos : 0 < w.size := by
    rcases Nat.eq_zero_or_pos w.size with k | k
    · exact absurd (List.length_eq_zero_iff.1 (hl.trans k)) h1
    · exact k
  refine ⟨by omega, ?_⟩
  have e1 : (w.toList == (⟨#[48]⟩ : ByteArray).toList) = decide (w.data.toList = [48]) := tst w.data.toList [48]
  rw [e1, Int.toNat_zero]
  have hhd : w.data.toList.head? = some (w.data.toList.getD 0 0) := by
    cases hw : w.data.toList with
    | nil => exact absurd hw h1
    | cons x r => rfl
  by_cases h0 : w.data.toList.getD 0 0 = 48 ∧ w.data.toList ≠ [48]
  · rw [if_pos (by rw [h0.1]; simp [h0.2])]
    have : digF w.data.toList = none := by unfold digF; rw [if_neg (fun k => h0.2 (k.2.2.2 (by rw [hhd, h0.1])))]
    rw [this] at h; exact h
  · rw [if_neg (by
      intro k
      simp only [Bool.and_eq_true, beq_iff_eq, Bool.not_eq_true', decide_eq_false_iff_not] at k
      refine h0 ⟨UInt8.toNat_inj.1 ?_, k.2⟩
      have e : (48 : UInt8).toNat = 48 := rfl
      omega)]
    have hz : w.data.toList.head? = some 48 → w.data.toList = [48] := fun k => by
      rw [hhd] at k
      by_cases hh : w.data.toList = [48]
      · exact hh
      · exact absurd ⟨Option.some.inj k, hh⟩ h0
    refine ⟨?_⟩
    refine Loop.range (B := pedagogueref10_number_n0_B w (w.size : Int) (fun y5 => Q (y5, true)) (fun _ => Q (0, false))) w.size (fun i => ((valD (w.data.toList.take i) : Int), (i : Int))) (fun i => ∀ c ∈ w.data.toList.take i, 48 ≤ c.toNat ∧ c.toNat ≤ 57) (fun c hc => by simp at hc) ?_ ?_
    · intro i hi hI X hX
      unfold pedagogueref10_number_n0_B
      dsimp only
      rw [if_pos (decide_eq_true (by omega)), Int.toNat_natCast]
      refine ⟨by omega, ?_⟩
      unfold jn
      dsimp only
      have hlt : i < w.data.toList.length := by omega
      have eg : w.data.toList.getD i 0 = w.data.toList[i] := by rw [List.getD_eq_getElem?_getD, List.getElem?_eq_getElem hlt]; rfl
      rw [eg]
      have bad : ¬ (48 ≤ w.data.toList[i].toNat ∧ w.data.toList[i].toNat ≤ 57) → Q (0, false) := fun k => by
        have : digF w.data.toList = none := by
          unfold digF
          rw [if_neg (fun hd => k (dig_all hd.2.2.1 _ (List.getElem_mem hlt)))]
        rw [this] at h; exact h
      by_cases b1 : w.data.toList[i].toNat < 48
      · rw [if_pos (decide_eq_true (by omega)), if_pos rfl]
        exact bad (by omega)
      · rw [if_neg (by rw [decide_eq_true_eq]; omega)]
        refine ⟨by omega, ?_⟩
        by_cases b2 : 57 < w.data.toList[i].toNat
        · rw [if_pos (decide_eq_true (by omega))]
          exact bad (by omega)
        · rw [if_neg (by rw [decide_eq_true_eq]; omega)]
          refine ⟨by omega, ?_⟩
          have hb : 48 ≤ w.data.toList[i].toNat ∧ w.data.toList[i].toNat ≤ 57 := by omega
          have htk : w.data.toList.take (i + 1) = w.data.toList.take i ++ [w.data.toList[i]] := by
            rw [List.take_add_one, List.getElem?_eq_getElem hlt]; rfl
          have hv := val_lt _ hI
          have hp : 10 ^ (w.data.toList.take i).length ≤ 10 ^ 4 := Nat.pow_le_pow_right (by omega) (by rw [List.length_take]; omega)
          rw [byte_int hb, wrap_i64 (10 * _) (by omega) (by omega), wrap_i64 _ (by omega) (by omega), wrap_i64 _ (by omega) (by omega)]
          have := hX (by
            intro c hc
            rw [htk] at hc
            rcases List.mem_append.1 hc with hc | hc
            · exact hI c hc
            · simp only [List.mem_singleton] at hc; rw [hc]; exact hb)
          rw [htk, valD_app] at this
          refine cast (congrArg X ?_) this
          rw [Prod.mk.injEq]
          exact ⟨by omega, by omega⟩
    · intro hI X
      unfold pedagogueref10_number_n0_B
      dsimp only
      rw [if_neg (by simp)]
      rw [← hl, List.take_length] at hI ⊢
      have : digF w.data.toList = some (valD w.data.toList : Int) := by
        unfold digF
        rw [if_pos ⟨h1, by omega, List.all_eq_true.2 fun c hc => decide_eq_true (hI c hc), hz⟩]
      rw [this] at h
      exact h

end Go.Proofs.YthphkjgkgdjmdaaDoor

namespace Go.Proofs.YthphkjgkgdjmdaaDoor
open Go.Mach
set_option maxRecDepth 100000
set_option linter.unusedVariables false
set_option linter.unusedSimpArgs false

def optN (o : Option Int) : Int × Bool :=
  match o with
  | some n => (n, true)
  | none => (0, false)
theorem rnum_v {w : Bytes} {Q : Int × Bool → Prop} (h : Q (optN (digF w))) : pedagogueref10_number (B w) Q := by
  refine rnumber_v ?_
  rw [data_B]
  unfold optN at h
  exact h

/-- The first line. -/
theorem rinputs_v {s : ByteArray} {Q : (Int × Int × Int) × Bool → Prop} (hs : s.size ≤ 1000000) (h : match firstF s.data.toList with
    | some i => Q (i, true)
    | none => ∀ i, Q (i, false)) : pedagogueref10_inputs s Q := by
  refine ⟨rsplit_v hs ?_⟩
  unfold firstF cutF at h
  unfold jn
  dsimp only
  cases hsp : spl 32 s.data.toList with
  | nil => exact absurd hsp (spl_ne 32 _)
  | cons w r =>
    rw [hsp] at h
    dsimp only at h
    rcases r with _ | ⟨x, _ | ⟨y, _ | ⟨z, _ | ⟨u, r⟩⟩⟩⟩
    · rw [if_pos (by simp), if_pos rfl]; exact h _
    · rw [if_pos (by simp), if_pos rfl]
      simp only [numsF] at h
      cases hx : digF x <;> rw [hx] at h <;> exact h _
    · rw [if_pos (by simp), if_pos rfl]
      simp only [numsF] at h
      cases hx : digF x <;> cases hy : digF y <;> simp only [hx, hy] at h <;> exact h _
    · rw [if_neg (by simp)]
      refine ⟨by simp, ?_⟩
      simp only [List.map_cons, List.map_nil, List.getD_cons_zero, List.getD_cons_succ]
      rw [show (⟨#[105, 110]⟩ : ByteArray) = B wIn from rfl, tst]
      by_cases hw : w = wIn
      · rw [decide_eq_true hw, if_neg (by simp)]
        refine ⟨by simp, rnum_v ?_⟩
        simp only [numsF] at h
        cases hx : digF x with
        | none => simp only [hx] at h; rw [if_pos (by rfl)]; exact h _
        | some nx =>
          simp only [hx] at h
          rw [if_neg (by simp [optN])]
          refine ⟨by simp, rnum_v ?_⟩
          cases hy : digF y with
          | none => simp only [hy] at h; rw [if_pos (by rfl)]; exact h _
          | some ny =>
            simp only [hy] at h
            rw [if_neg (by simp [optN])]
            refine ⟨by simp, rnum_v ?_⟩
            cases hz : digF z with
            | none => simp only [hz] at h; rw [if_pos (by rfl)]; exact h _
            | some nz =>
              simp only [hz] at h
              rw [if_neg (by simp [optN])]
              refine rmayIn_v ?_
              show Q ((nx, ny, nz), entersB (nx, ny, nz))
              cases he : entersB (nx, ny, nz) with
              | true => rw [if_pos ⟨hw, he⟩] at h; exact h
              | false => rw [if_neg (fun k => by rw [he] at k; cases k.2)] at h; exact h _
      · rw [decide_eq_false hw, if_pos (by rfl)]
        split at h
        · rename_i i hi
          split at hi
          · rename_i w' a b c hc
            split at hc
            · cases hc
              rw [if_neg (fun k => hw k.1)] at hi
              cases hi
            · cases hc
          · cases hi
        · exact h _
    · rw [if_pos (by simp; omega), if_pos rfl]
      split at h
      · rename_i i hi
        split at hi
        · rename_i w' a b c hc
          split at hc
          · rename_i ns hn
            cases hc
            have := numsF_len hn
            simp at this
          · cases hc
        · cases hi
      · exact h _

/-! ### Words, and frozen at the end -/
theorem spl_gen (c : UInt8) : ∀ (a r : Bytes), spl c (a ++ c :: r) = spl c a ++ spl c r
  | [], r => by simp [spl]
  | x :: a, r => by
    have ih := spl_gen c a r
    simp only [List.cons_append, spl]
    by_cases hx : x = c
    · rw [if_pos hx, if_pos hx, ih]; rfl
    · rw [if_neg hx, if_neg hx, ih]
      cases hs : spl c a with
      | nil => exact absurd hs (spl_ne c a)
      | cons h t => rfl
def wF6 : Bytes := [102, 114, 111, 122, 101, 110]
theorem spl_fz (b : Bytes) : spl 32 (b ++ wFz) = spl 32 b ++ [wF6] := by
  have : b ++ wFz = b ++ 32 :: wF6 := rfl
  rw [this, spl_gen, spl_none 32 wF6 (by decide)]
/-- The words of a line, without 'frozen', and whether it was there. -/
theorem words_suf (l : Bytes) : (1 < (spl 32 l).length ∧ (spl 32 l).getLast? = some wF6 → sufF l = ((sufF l).1, true) ∧ spl 32 (sufF l).1 = (spl 32 l).take ((spl 32 l).length - 1)) ∧
    (¬ (1 < (spl 32 l).length ∧ (spl 32 l).getLast? = some wF6) → sufF l = (l, false)) := by
  constructor
  · rintro ⟨h1, h2⟩
    cases hs : spl 32 l with
    | nil => exact absurd hs (spl_ne 32 l)
    | cons h t =>
      rw [hs] at h1 h2
      rcases List.eq_nil_or_concat t with rfl | ⟨t', w, rfl⟩
      · simp at h1
      · rw [List.concat_eq_append] at *
        have hw : w = wF6 := by
          have e : h :: (t' ++ [w]) = (h :: t') ++ [w] := rfl
          rw [e, List.getLast?_append] at h2
          simpa using h2
        subst hw
        obtain ⟨e1, e2⟩ := spl_inv' l h _ hs
        have el : l = (h ++ t'.flatMap (32 :: ·)) ++ wFz := by
          rw [e1, List.flatMap_append, ← List.append_assoc]
          rfl
        have hsf := suf_fz' (h ++ t'.flatMap (32 :: ·))
        rw [← el] at hsf
        rw [hsf]
        refine ⟨rfl, ?_⟩
        have := spl_fz (h ++ t'.flatMap (32 :: ·))
        rw [← el, hs] at this
        have e : h :: (t' ++ [wF6]) = (h :: t') ++ [wF6] := rfl
        rw [e] at this ⊢
        rw [← List.append_cancel_right this]
        simp
  · intro hn
    unfold sufF
    rw [if_neg]
    rintro ⟨h7, hd⟩
    have e : l = l.take (l.length - 7) ++ wFz := by rw [← hd, List.take_append_drop]
    have hs := spl_fz (l.take (l.length - 7))
    rw [← e] at hs
    refine hn ?_
    rw [hs]
    refine ⟨?_, by rw [List.getLast?_append]; rfl⟩
    have := List.length_pos_iff.2 (spl_ne 32 (l.take (l.length - 7)))
    simp; omega
where
  spl_inv' : ∀ (l : Bytes) (h : Bytes) (t : List Bytes), spl 32 l = h :: t → l = h ++ t.flatMap (32 :: ·) ∧ (32 : UInt8) ∉ h
  | [], h, t, e => by
    simp only [spl, List.cons.injEq] at e
    obtain ⟨rfl, rfl⟩ := e
    exact ⟨rfl, by simp⟩
  | x :: r, h, t, e => by
    unfold spl at e
    split at e
    · rename_i hx
      simp only [List.cons.injEq] at e
      obtain ⟨rfl, rfl⟩ := e
      cases hs : spl 32 r with
      | nil => exact absurd hs (spl_ne 32 r)
      | cons h' t' =>
        obtain ⟨e1, e2⟩ := spl_inv' r h' t' hs
        refine ⟨?_, by simp⟩
        rw [hx]
        simp only [List.nil_append, List.flatMap_cons, List.cons_append]
        rw [← e1]
    · rename_i hx
      split at e
      · rename_i hs; exact absurd hs (spl_ne 32 r)
      · rename_i h' t' hs
        simp only [List.cons.injEq] at e
        obtain ⟨rfl, rfl⟩ := e
        obtain ⟨e1, e2⟩ := spl_inv' r h' _ hs
        refine ⟨by rw [List.cons_append, ← e1], fun k => ?_⟩
        rcases List.mem_cons.1 k with k | k
        · exact hx k.symm
        · exact e2 k
  suf_fz' (b : Bytes) : sufF (b ++ wFz) = (b, true) := by
    have hl : (b ++ wFz).length = b.length + 7 := by rw [List.length_append]; rfl
    unfold sufF
    rw [hl, Nat.add_sub_cancel]
    rw [if_pos ⟨by omega, List.drop_left⟩, List.take_left]

end Go.Proofs.YthphkjgkgdjmdaaDoor

namespace Go.Proofs.YthphkjgkgdjmdaaDoor
open Go.Mach
set_option maxRecDepth 100000
set_option linter.unusedVariables false
set_option linter.unusedSimpArgs false

theorem dec_inj2 {a b : Nat} (h : Lib.decDigits a = Lib.decDigits b) : a = b := by rw [← valD_dec a, h, valD_dec]
theorem itoa_nat (n : Nat) : Lib.itoa (n : Int) = Lib.decDigits n := by
  unfold Lib.itoa
  rw [if_neg (by omega), Int.toNat_natCast]
theorem key_t {w w' : Bytes} (hw : (32 : UInt8) ∉ w) (hw' : (32 : UInt8) ∉ w') (n k : Nat) : ((B ((w ++ [32]) ++ Lib.itoa (n : Int))).toList == (B (w' ++ 32 :: Lib.itoa (k : Int))).toList) = decide (w = w' ∧ n = k) := by
  rw [tst, Bool.eq_iff_iff, decide_eq_true_iff, decide_eq_true_iff]
  constructor
  · intro e
    have e : w ++ 32 :: Lib.itoa (n : Int) = w' ++ 32 :: Lib.itoa (k : Int) := by rw [← e]; simp
    have h1 := brk_app (c := 32) (a := w) (Lib.itoa (n : Int)) hw
    have h2 := brk_app (c := 32) (a := w') (Lib.itoa (k : Int)) hw'
    rw [e, h2] at h1
    simp only [Option.some.injEq, Prod.mk.injEq] at h1
    refine ⟨h1.1.symm, ?_⟩
    have := h1.2
    rw [itoa_nat, itoa_nat] at this
    exact (dec_inj2 this).symm
  · rintro ⟨rfl, rfl⟩
    simp
theorem itoa_dig {k : Nat} (h : k < 10) : Lib.itoa (k : Int) = [UInt8.ofNat (48 + k)] := by
  rw [itoa_nat, Lib.decDigits, dif_pos h]

def layerK (w : Bytes) (ns : List Int) (fz : Bool) : Option Lay :=
  if w = wDense then (match ns with
    | [a] => some (1, a, 0, 0, 0, 0, fz)
    | _ => none)
  else if w = wConv then (match ns with
    | [a, b, c, d] => some (2, a, b, c, d, 0, fz)
    | _ => none)
  else if w = wMax then (match ns with
    | [a, b] => some (3, 0, a, b, 0, 0, fz)
    | _ => none)
  else if w = wAvg then (match ns with
    | [a, b] => some (4, 0, a, b, 0, 0, fz)
    | _ => none)
  else if w = wRelu then (match ns with
    | [] => some (5, 0, 0, 0, 0, 0, fz)
    | _ => none)
  else if w = wFlat then (match ns with
    | [] => some (6, 0, 0, 0, 0, 0, fz)
    | _ => none)
  else if w = wAdd then (match ns with
    | [a] => some (7, 0, 0, 0, 0, a, fz)
    | _ => none)
  else none
def okM (o : Option Lay) (k : Int) : Option Lay :=
  match o with
  | some x => if mayLF x k = true then some x else none
  | none => none
def refL (w : Bytes) (r : List Bytes) (fz : Bool) (k : Int) : Option Lay :=
  match numsF r with
  | some ns => if ns.length ≤ 4 then okM (layerK w ns fz) k else none
  | none => none
def tupL (o : Option Lay) : Bool × Lay :=
  match o with
  | some x => (true, x)
  | none => (false, Lay0)

/-- The numbers of a line, four at most. -/
theorem rnums_v {r : List Bytes} {K0 : List Int → Prop} {K1 : Unit → Prop} (hr : r.length ≤ 1000000) (h : match numsF r with
    | some ns => if ns.length ≤ 4 then K0 (ns ++ List.replicate (5 - ns.length) 0) else K1 ()
    | none => K1 ()) : pedagogueref10_layer_n2 (r.map B) ((r.map B).length : Int) K0 K1 (0, List.replicate ((5 : Int)).toNat (0 : Int)) := by
  refine ⟨?_⟩
  refine Loop.inv (fun m st => ∃ (i : Nat) (l : List Int), st = ((i : Int), l ++ List.replicate (5 - i) 0) ∧ i + m = r.length + 1 ∧ i ≤ r.length ∧ i ≤ 4 ∧ numsF (r.take i) = some l) (n := r.length + 1) ⟨0, [], rfl, by omega, by omega, by omega, rfl⟩ ?_
  rintro m st X ⟨i, l, rfl, hm, hi, hi4, hl⟩ hX
  have hll := numsF_len hl
  rw [List.length_take] at hll
  unfold pedagogueref10_layer_n2_B
  dsimp only
  by_cases hlt : i < r.length
  · rw [if_pos (decide_eq_true (by simp; omega)), Int.toNat_natCast]
    refine ⟨by simp; omega, ?_⟩
    rw [getD_map_B r i hlt]
    refine rnum_v ?_
    have eg : r.getD i [] = r[i] := by rw [List.getD_eq_getElem?_getD, List.getElem?_eq_getElem hlt]; rfl
    have hne : numsF (r.take (i + 1)) = match digF (r.getD i []) with
        | some n => some (l ++ [n])
        | none => none := by
      rw [List.take_add_one, numsF_app, hl, List.getElem?_eq_getElem hlt, eg]
      simp only [Option.toList_some, numsF]
      cases digF r[i] <;> rfl
    cases hd : digF (r.getD i []) with
    | none =>
      rw [hd] at hne
      have : numsF r = none := by rw [← List.take_append_drop (i + 1) r, numsF_app, hne]
      rw [this] at h
      rw [if_pos (by rfl)]
      exact h
    | some n =>
      rw [hd] at hne
      by_cases h4 : i = 4
      · rw [if_pos (by simp [optN]; omega)]
        have hlen : ∀ ns, numsF r = some ns → ¬ ns.length ≤ 4 := fun ns e => by have := numsF_len e; omega
        cases hn : numsF r with
        | none => rw [hn] at h; exact h
        | some ns => rw [hn] at h; dsimp only at h; rw [if_neg (hlen ns hn)] at h; exact h
      · rw [if_neg (by simp [optN]; omega)]
        refine ⟨by simp; omega, ?_⟩
        rw [wrap_i64 _ (by omega) (by omega)]
        refine hX (m - 1) _ (by omega) ⟨i + 1, l ++ [n], ?_, by omega, by omega, by omega, hne⟩
        rw [Prod.mk.injEq]
        refine ⟨by omega, ?_⟩
        have e5 : 5 - i = (5 - (i + 1)) + 1 := by omega
        have el : i = l.length := by omega
        rw [e5, List.replicate_succ, List.append_assoc, List.singleton_append]
        show (l ++ 0 :: List.replicate (5 - (i + 1)) 0).set i n = _
        conv => lhs; rw [el]
        rw [List.set_append_right _ _ (Nat.le_refl _), Nat.sub_self]
        rw [el]
        rfl
  · have hie : i = r.length := by omega
    rw [if_neg (by simp; omega)]
    rw [hie, List.take_length] at hl
    rw [hl] at h
    dsimp only at h
    have hl2 := numsF_len hl
    rw [if_pos (by omega)] at h
    rw [hl2] at h
    rw [hie]
    exact h

end Go.Proofs.YthphkjgkgdjmdaaDoor

namespace Go.Proofs.YthphkjgkgdjmdaaDoor
open Go.Mach
set_option maxRecDepth 100000
set_option linter.unusedVariables false
set_option linter.unusedSimpArgs false

theorem rlayer1_v {k x8 x9 x10 x11 x12 x13 : Int} {x14 : Bool} {K0 : (Bool × Int × Int × Int × Int × Int × Int × Bool) → Prop} (h : K0 (tupL (okM (some (x8, x9, x10, x11, x12, x13, x14)) k))) : pedagogueref10_layer_n1 k x8 x9 x10 x11 x12 x13 x14 K0 := by
  refine ⟨rmayL_v ?_⟩
  unfold okM at h
  dsimp only at h
  cases hm : mayLF (x8, x9, x10, x11, x12, x13, x14) k with
  | false => rw [hm] at h; rw [if_pos (by rfl)]; exact h
  | true => rw [hm] at h; rw [if_neg (by decide)]; exact h

theorem layerK_none {w : Bytes} {ns : List Int} {fz : Bool} (h1 : ¬ (w = wDense ∧ ns.length = 1)) (h2 : ¬ (w = wConv ∧ ns.length = 4)) (h3 : ¬ (w = wMax ∧ ns.length = 2)) (h4 : ¬ (w = wAvg ∧ ns.length = 2)) (h5 : ¬ (w = wRelu ∧ ns.length = 0)) (h6 : ¬ (w = wFlat ∧ ns.length = 0)) (h7 : ¬ (w = wAdd ∧ ns.length = 1)) : layerK w ns fz = none := by
  unfold layerK
  by_cases e1 : w = wDense
  · rw [if_pos e1]; split
    · exact absurd ⟨e1, rfl⟩ h1
    · rfl
  rw [if_neg e1]
  by_cases e2 : w = wConv
  · rw [if_pos e2]; split
    · exact absurd ⟨e2, rfl⟩ h2
    · rfl
  rw [if_neg e2]
  by_cases e3 : w = wMax
  · rw [if_pos e3]; split
    · exact absurd ⟨e3, rfl⟩ h3
    · rfl
  rw [if_neg e3]
  by_cases e4 : w = wAvg
  · rw [if_pos e4]; split
    · exact absurd ⟨e4, rfl⟩ h4
    · rfl
  rw [if_neg e4]
  by_cases e5 : w = wRelu
  · rw [if_pos e5]; split
    · exact absurd ⟨e5, rfl⟩ h5
    · rfl
  rw [if_neg e5]
  by_cases e6 : w = wFlat
  · rw [if_pos e6]; split
    · exact absurd ⟨e6, rfl⟩ h6
    · rfl
  rw [if_neg e6]
  by_cases e7 : w = wAdd
  · rw [if_pos e7]; split
    · exact absurd ⟨e7, rfl⟩ h7
    · rfl
  rw [if_neg e7]

theorem sk_dense : sc_af2a5c01 = B (wDense ++ 32 :: Lib.itoa ((1 : Nat) : Int)) := by rw [itoa_dig (by omega)]; rfl
theorem sk_conv : sc_8454e986 = B (wConv ++ 32 :: Lib.itoa ((4 : Nat) : Int)) := by rw [itoa_dig (by omega)]; rfl
theorem sk_max : sc_492fd4e8 = B (wMax ++ 32 :: Lib.itoa ((2 : Nat) : Int)) := by rw [itoa_dig (by omega)]; rfl
theorem sk_avg : sc_a90b8aa8 = B (wAvg ++ 32 :: Lib.itoa ((2 : Nat) : Int)) := by rw [itoa_dig (by omega)]; rfl
theorem sk_relu : sc_dea753f4 = B (wRelu ++ 32 :: Lib.itoa ((0 : Nat) : Int)) := by rw [itoa_dig (by omega)]; rfl
theorem sk_flat : sc_a4d55038 = B (wFlat ++ 32 :: Lib.itoa ((0 : Nat) : Int)) := by rw [itoa_dig (by omega)]; rfl
theorem sk_add : sc_d44a9ad3 = B (wAdd ++ 32 :: Lib.itoa ((1 : Nat) : Int)) := by rw [itoa_dig (by omega)]; rfl

theorem rlayer0_v {w : Bytes} {r : List Bytes} {fz : Bool} {k : Int} {K0 : (Bool × Int × Int × Int × Int × Int × Int × Bool) → Prop} (hw : (32 : UInt8) ∉ w) (hwl : w.length ≤ 1000000) (hr : r.length ≤ 1000000) (h : K0 (tupL (refL w r fz k))) : pedagogueref10_layer_n0 k ((w :: r).map B) 0 0 0 0 0 0 fz K0 := by
  refine ⟨⟨by omega, ⟨⟨by simp, by omega, by simp; omega, by omega⟩, ?_⟩⟩⟩
  have e : ((((w :: r).map B).take ((((w :: r).map B).length : Int)).toNat).drop ((1 : Int)).toNat) = r.map B := by
    rw [Int.toNat_natCast, List.take_length]; rfl
  rw [e]
  refine rnums_v hr ?_
  unfold refL at h
  cases hn : numsF r with
  | none => rw [hn] at h; exact h
  | some ns =>
    rw [hn] at h
    dsimp only at h ⊢
    have hl := numsF_len hn
    by_cases h4 : ns.length ≤ 4
    · rw [if_pos h4] at h
      rw [if_pos h4]
      have ew : IntKind.i64.wrap ((((w :: r).map B).length : Int) - 1) = (r.length : Int) := by
        rw [wrap_i64 _ (by simp <;> omega) (by simp <;> omega)]
        simp
      have eg : ((w :: r).map B).getD 0 ByteArray.empty = B w := rfl
      have ei : Go.Mach.itoaS (r.length : Int) = B (Lib.itoa (r.length : Int)) := rfl
      have il : (Lib.itoa (r.length : Int)).length = 1 := by rw [itoa_dig (by omega)]; rfl
      refine ⟨⟨by omega, by simp⟩, ?_⟩
      rw [eg, ew]
      have e1 : B w ++ (⟨#[32]⟩ : ByteArray) = B (w ++ [32]) := by
        show B w ++ B [32] = _
        rw [B_app]
      rw [e1]
      refine ⟨by rw [B_size]; show _ + 1 ≤ _; omega, ⟨⟨by omega, by omega⟩, ?_⟩⟩
      dsimp only
      rw [ei]
      refine ⟨by rw [B_size, B_size, il, List.length_append]; show _ + 1 + 1 ≤ _; omega, ?_⟩
      rw [B_app, sk_dense, sk_conv, sk_max, sk_avg, sk_relu, sk_flat, sk_add, key_t hw (by decide), key_t hw (by decide), key_t hw (by decide), key_t hw (by decide), key_t hw (by decide), key_t hw (by decide), key_t hw (by decide), ← hl]
      have hlen : ((ns ++ List.replicate (5 - ns.length) 0).length : Int) = 5 := by simp; omega
      have key : ∀ {a b : Nat} {c : Bytes}, (decide (w = c ∧ a = b)) = true → w = c ∧ a = b := fun h => of_decide_eq_true h
      by_cases c1 : w = wDense ∧ ns.length = 1
      · rw [if_pos (decide_eq_true c1)]
        obtain ⟨rfl, c⟩ := c1
        match ns, c with
        | [a], _ => exact ⟨by omega, rlayer1_v h⟩
      rw [if_neg (fun t => c1 (of_decide_eq_true t))]
      by_cases c2 : w = wConv ∧ ns.length = 4
      · rw [if_pos (decide_eq_true c2)]
        obtain ⟨rfl, c⟩ := c2
        match ns, c with
        | [a, b, c, d], _ => exact ⟨by omega, by omega, by omega, by omega, rlayer1_v h⟩
      rw [if_neg (fun t => c2 (of_decide_eq_true t))]
      by_cases c3 : w = wMax ∧ ns.length = 2
      · rw [if_pos (decide_eq_true c3)]
        obtain ⟨rfl, c⟩ := c3
        match ns, c with
        | [a, b], _ => exact ⟨by omega, by omega, rlayer1_v h⟩
      rw [if_neg (fun t => c3 (of_decide_eq_true t))]
      by_cases c4 : w = wAvg ∧ ns.length = 2
      · rw [if_pos (decide_eq_true c4)]
        obtain ⟨rfl, c⟩ := c4
        match ns, c with
        | [a, b], _ => exact ⟨by omega, by omega, rlayer1_v h⟩
      rw [if_neg (fun t => c4 (of_decide_eq_true t))]
      by_cases c5 : w = wRelu ∧ ns.length = 0
      · rw [if_pos (decide_eq_true c5)]
        obtain ⟨rfl, c⟩ := c5
        match ns, c with
        | [], _ => exact rlayer1_v h
      rw [if_neg (fun t => c5 (of_decide_eq_true t))]
      by_cases c6 : w = wFlat ∧ ns.length = 0
      · rw [if_pos (decide_eq_true c6)]
        obtain ⟨rfl, c⟩ := c6
        match ns, c with
        | [], _ => exact rlayer1_v h
      rw [if_neg (fun t => c6 (of_decide_eq_true t))]
      by_cases c7 : w = wAdd ∧ ns.length = 1
      · rw [if_pos (decide_eq_true c7)]
        obtain ⟨rfl, c⟩ := c7
        match ns, c with
        | [a], _ => exact ⟨by omega, rlayer1_v h⟩
      rw [if_neg (fun t => c7 (of_decide_eq_true t))]
      rw [layerK_none c1 c2 c3 c4 c5 c6 c7] at h
      exact rlayer1_v h
    · rw [if_neg h4] at h
      rw [if_neg h4]
      exact h

end Go.Proofs.YthphkjgkgdjmdaaDoor

namespace Go.Proofs.YthphkjgkgdjmdaaDoor
open Go.Mach
set_option maxRecDepth 100000
set_option linter.unusedVariables false
set_option linter.unusedSimpArgs false

theorem okM_fz {w : Bytes} {ns : List Int} {k : Int} (h1 : w ≠ wDense) (h2 : w ≠ wConv) : okM (layerK w ns true) k = none := by
  unfold layerK
  rw [if_neg h1, if_neg h2]
  split
  · split
    · unfold okM mayLF; simp
    · rfl
  split
  · split
    · unfold okM mayLF; simp
    · rfl
  split
  · split
    · unfold okM mayLF; simp
    · rfl
  split
  · split
    · unfold okM mayLF; simp
    · rfl
  split
  · split
    · unfold okM mayLF; simp
    · rfl
  · rfl
theorem okM_P {w : Bytes} {ns : List Int} {fz : Bool} {k : Int} : okM (layerP w ns fz) k = if ns.length ≤ 4 then okM (layerK w ns fz) k else none := by
  by_cases hf : fz = true ∧ w ≠ wDense ∧ w ≠ wConv
  · have e : layerP w ns fz = none := by unfold layerP; rw [if_pos hf]
    rw [e, hf.1, okM_fz hf.2.1 hf.2.2, ite_self]
    rfl
  · have e : layerP w ns fz = layerK w ns fz := by unfold layerP layerK; rw [if_neg hf]; rfl
    rw [e]
    by_cases h4 : ns.length ≤ 4
    · rw [if_pos h4]
    · rw [if_neg h4, layerK_none (fun c => h4 (by omega)) (fun c => h4 (by omega)) (fun c => h4 (by omega)) (fun c => h4 (by omega)) (fun c => h4 (by omega)) (fun c => h4 (by omega)) (fun c => h4 (by omega))]
      rfl
theorem lineF_ref {l w : Bytes} {r : List Bytes} {k : Nat} (h : spl 32 (sufF l).1 = w :: r) : lineF l k = refL w r (sufF l).2 (k : Int) := by
  show okM (layerF l) (k : Int) = _
  unfold layerF cutF refL
  rw [h]
  dsimp only
  cases numsF r with
  | none => rfl
  | some ns => exact okM_P
theorem spl_noc (c : UInt8) {l w : Bytes} {r : List Bytes} (h : spl c l = w :: r) : c ∉ w := (spl_inv c l w r h).2

theorem rlayer_v {s : ByteArray} {k : Nat} {Q : Lay × Bool → Prop} (hs : s.size ≤ 2000) (h : Q (optL (lineF s.data.toList k))) : pedagogueref10_layer s (k : Int) Q := by
  have hl : s.data.toList.length = s.size := rfl
  refine ⟨rsplit_v (by omega) ?_⟩
  dsimp only [jn]
  have hlen := spl_len 32 s.data.toList
  have hwd := spl_word 32 s.data.toList
  have hsuf := words_suf s.data.toList
  generalize hws : spl 32 s.data.toList = ws at hsuf hlen hwd
  have hne : ws ≠ [] := by rw [← hws]; exact spl_ne _ _
  have hpos : 0 < ws.length := List.length_pos_iff.2 hne
  have tail : ∀ {o : Option Lay}, Q (optL o) → (fun y16 : Bool × Int × Int × Int × Int × Int × Int × Bool => Q (y16.2, y16.1)) (tupL o) := by
    intro o ho
    cases o <;> exact ho
  have ew : IntKind.i64.wrap (((ws.map B).length : Int) - 1) = ((ws.length - 1 : Nat) : Int) := by
    rw [wrap_i64 _ (by simp <;> omega) (by simp <;> omega)]
    simp <;> omega
  rw [ew]
  by_cases h1 : 1 < ws.length
  · rw [if_pos (decide_eq_true (by simp; omega))]
    refine ⟨by simp <;> omega, ?_⟩
    rw [Int.toNat_natCast, getD_map_B _ _ (by omega)]
    have eb : ((B (ws.getD (ws.length - 1) [])).toList == sc_ffb30481.toList) = decide (ws.getLast? = some wF6) := by
      have : sc_ffb30481 = B wF6 := rfl
      rw [this, tst, List.getLast?_eq_getElem?, List.getElem?_eq_getElem (by omega), List.getD_eq_getElem?_getD, List.getElem?_eq_getElem (by omega)]
      simp
    rw [eb]
    by_cases hf : ws.getLast? = some wF6
    · rw [if_pos (decide_eq_true hf)]
      obtain ⟨e1, e2⟩ := hsuf.1 ⟨h1, hf⟩
      refine ⟨⟨by simp [hne], by omega, by omega, by simp <;> omega⟩, ?_⟩
      have et : ((ws.map B).take (ws.length - 1)).drop ((0 : Int)).toNat = (ws.take (ws.length - 1)).map B := by
        rw [List.map_take]; rfl
      rw [et]
      have ef : (sufF s.data.toList).2 = true := by rw [e1]
      obtain ⟨w, r, er⟩ : ∃ w r, ws.take (ws.length - 1) = w :: r := by
        cases hh : ws.take (ws.length - 1) with
        | nil => have := congrArg List.length hh; rw [List.length_take] at this; simp at this; omega
        | cons w r => exact ⟨w, r, rfl⟩
      rw [er] at e2 ⊢
      rw [lineF_ref e2, ef] at h
      have hm : w ∈ ws := List.mem_of_mem_take (by rw [er]; simp)
      have hrl : r.length + 1 ≤ ws.length := by
        have := congrArg List.length er
        rw [List.length_take] at this
        simp at this; omega
      exact rlayer0_v (spl_noc 32 e2) (by have := hwd w hm; omega) (by omega) (tail h)
    · rw [if_neg (fun t => hf (of_decide_eq_true t))]
      have es := hsuf.2 (fun c => hf c.2)
      obtain ⟨w, r, er⟩ : ∃ w r, ws = w :: r := by cases ws with
        | nil => exact absurd rfl hne
        | cons w r => exact ⟨w, r, rfl⟩
      have e2 : spl 32 (sufF s.data.toList).1 = w :: r := by rw [es, hws, er]
      rw [lineF_ref e2, es] at h
      subst er
      exact rlayer0_v (spl_noc 32 e2) (by have := hwd w (by simp); omega) (by simp at hlen; omega) (tail h)
  · rw [if_neg (by simp; omega)]
    rw [if_neg (by decide)]
    have es := hsuf.2 (fun c => h1 c.1)
    obtain ⟨w, r, er⟩ : ∃ w r, ws = w :: r := by cases ws with
      | nil => exact absurd rfl hne
      | cons w r => exact ⟨w, r, rfl⟩
    have e2 : spl 32 (sufF s.data.toList).1 = w :: r := by rw [es, hws, er]
    rw [lineF_ref e2, es] at h
    subst er
    exact rlayer0_v (spl_noc 32 e2) (by have := hwd w (by simp); omega) (by simp at hlen; omega) (tail h)

end Go.Proofs.YthphkjgkgdjmdaaDoor

namespace Go.Proofs.YthphkjgkgdjmdaaDoor
open Go.Mach
set_option maxRecDepth 100000
set_option linter.unusedVariables false
set_option linter.unusedSimpArgs false

theorem brk_non {c : UInt8} : ∀ {l : Bytes}, c ∉ l → brk c l = none
  | [], _ => rfl
  | x :: l, h => by
    unfold brk
    rw [if_neg (fun e => h (by rw [e]; simp)), brk_non (fun e => h (by simp [e]))]
theorem rparse_v {s : ByteArray} {Q : Mdl × Int × Int → Prop} (h : Q (parseF s.data.toList)) : pedagogueref10_ParseModel s Q := by
  have hl : s.data.toList.length = s.size := rfl
  refine ⟨?_⟩
  unfold parseF at h
  by_cases h2 : 2000 < s.size
  · rw [if_pos (by rw [hl]; exact h2)] at h
    rw [if_pos (decide_eq_true (by omega))]
    exact h
  rw [if_neg (by rw [hl]; exact h2)] at h
  rw [if_neg (by simp; omega)]
  refine ⟨?_⟩
  refine Loop.inv (fun m st => ∃ (n fr i f : Nat) (inp : Int × Int × Int) (ls : List Lay), st = ((n : Int), (fr : Int), (i : Int), inp.1, inp.2.1, inp.2.2, ls) ∧ i + m = s.size + 1 ∧ fr ≤ i ∧ i ≤ s.size ∧ n ≤ i ∧ ls.length ≤ 12 ∧ ls.length = n - 1 ∧ s.size - fr + 1 ≤ f ∧ (10 : UInt8) ∉ (s.data.toList.take i).drop fr ∧ Q (goF f (s.data.toList.drop fr) n inp ls)) (n := s.size + 1)
    ⟨0, 0, 0, s.size + 1, (0, 0, 0), [], rfl, by omega, by omega, by omega, by omega, by simp, rfl, by omega, by simp, by rw [hl] at h; exact h⟩ ?_
  rintro m st X ⟨n, fr, i, f, inp, ls, rfl, hm, hfi, hi, hn, h12, hln, hf, hno, hq⟩ hX
  unfold pedagogueref10_ParseModel_n0_B
  dsimp only
  have hwn : IntKind.i64.wrap ((n : Int) + 1) = ((n + 1 : Nat) : Int) := by
    rw [wrap_i64 _ (by omega) (by omega)]; omega
  obtain ⟨f, rfl⟩ : ∃ f', f = f' + 1 := ⟨f - 1, by omega⟩
  by_cases hlt : i < s.size
  · rw [if_pos (decide_eq_true (by omega)), Int.toNat_natCast, Int.toNat_natCast]
    refine ⟨by omega, ?_⟩
    have hwi : IntKind.i64.wrap ((i : Int) + 1) = ((i + 1 : Nat) : Int) := by
      rw [wrap_i64 _ (by omega) (by omega)]; omega
    have hlt' : i < s.data.toList.length := by omega
    rw [hwi, hwn]
    have eg : s.data.toList.getD i 0 = s.data.toList[i] := by
      rw [List.getD_eq_getElem?_getD, List.getElem?_eq_getElem hlt']; rfl
    by_cases hb : s.data.toList[i] = 10
    · have hsp : s.data.toList.drop fr = (s.data.toList.take i).drop fr ++ 10 :: s.data.toList.drop (i + 1) := by
        conv => lhs; rw [← List.take_append_drop i s.data.toList]
        rw [List.drop_append_of_le_length (by rw [List.length_take]; omega), List.drop_eq_getElem_cons hlt', hb]
      rw [if_neg (by rw [eg, hb]; decide)]
      refine ⟨⟨trivial, by omega, by omega, by omega⟩, ?_⟩
      rw [hsp] at hq
      unfold goF at hq
      rw [if_neg (by simp), brk_app _ hno] at hq
      dsimp only at hq
      have hsz : (B ((s.data.toList.take i).drop fr)).size ≤ 2000 := by
        rw [B_size, List.length_drop, List.length_take]; omega
      by_cases h0 : n = 0
      · subst h0
        rw [if_pos rfl] at hq
        rw [if_pos (by rfl)]
        refine rinputs_v (s := B ((s.data.toList.take i).drop fr)) (by omega) ?_
        rw [show (B ((s.data.toList.take i).drop fr)).data.toList = (s.data.toList.take i).drop fr from rfl]
        cases hfi : firstF ((s.data.toList.take i).drop fr) with
        | none =>
          rw [hfi] at hq
          intro j
          rw [if_pos (by rfl)]
          exact hq
        | some j =>
          rw [hfi] at hq
          dsimp only at hq ⊢
          rw [if_neg (by decide)]
          exact hX (m - 1) _ (by omega) ⟨1, i + 1, i + 1, f, j, ls, rfl, by omega, by omega, by omega, by omega, h12, hln, by omega, by simp, hq⟩
      · rw [if_neg h0] at hq
        rw [if_neg (by simp; omega)]
        refine rlayer_v (s := B ((s.data.toList.take i).drop fr)) (k := ls.length) (by omega) ?_
        rw [show (B ((s.data.toList.take i).drop fr)).data.toList = (s.data.toList.take i).drop fr from rfl]
        refine ⟨?_⟩
        cases hli : lineF ((s.data.toList.take i).drop fr) ls.length with
        | none =>
          rw [hli] at hq
          rw [if_pos (by rfl)]
          exact hq
        | some x =>
          rw [hli] at hq
          dsimp only [optL] at hq ⊢
          show (if (decide (12 ≤ (ls.length : Int))) = true then _ else _)
          by_cases hc : ls.length = 12
          · rw [if_pos hc] at hq
            rw [if_pos (decide_eq_true (by omega))]
            exact hq
          · rw [if_neg hc] at hq
            rw [if_neg (by simp; omega)]
            refine ⟨by simp; omega, ?_⟩
            exact hX (m - 1) _ (by omega) ⟨n + 1, i + 1, i + 1, f, inp, ls ++ [x], rfl, by omega, by omega, by omega, by omega, by simp; omega, by simp; omega, by omega, by simp, hq⟩
    · rw [if_pos (by
        rw [eg]
        simp only [bne_iff_ne, ne_eq]
        intro e
        have h10 : (10 : UInt8).toNat = 10 := rfl
        exact hb (UInt8.toNat_inj.1 (by omega)))]
      refine hX (m - 1) _ (by omega) ⟨n, fr, i + 1, f + 1, inp, ls, rfl, by omega, by omega, by omega, by omega, h12, hln, hf, ?_, hq⟩
      rw [List.take_add_one, List.getElem?_eq_getElem hlt', List.drop_append_of_le_length (by rw [List.length_take]; omega)]
      simp only [Option.toList_some, List.mem_append, List.mem_singleton, not_or]
      exact ⟨hno, fun e => hb e.symm⟩
  · have hie : i = s.size := by omega
    subst hie
    rw [if_neg (by simp)]
    have ht : s.data.toList.take s.size = s.data.toList := by rw [← hl, List.take_length]
    rw [ht] at hno
    unfold goF at hq
    rw [brk_non hno] at hq
    dsimp only at hq ⊢
    rw [hwn]
    by_cases hfs : fr < s.size
    · rw [if_neg (fun c => by
        have := congrArg List.length c.1
        rw [List.length_drop] at this
        simp at this; omega)] at hq
      rw [if_pos (by rw [decide_eq_true (by omega)]; rfl)]
      exact hq
    · have e0 : s.data.toList.drop fr = [] := List.drop_eq_nil_of_le (by omega)
      rw [e0] at hq
      by_cases hn2 : 2 ≤ n
      · rw [if_pos ⟨rfl, hn2⟩] at hq
        rw [if_neg (by rw [Bool.or_eq_true, decide_eq_true_iff, beq_iff_eq]; omega)]
        exact hq
      · rw [if_neg (fun c => hn2 c.2)] at hq
        rw [if_pos (by rw [Bool.or_eq_true, decide_eq_true_iff, beq_iff_eq]; omega)]
        exact hq

theorem goF_len : ∀ (f : Nat) (l : Bytes) (n : Nat) (i : Int × Int × Int) (ls : List Lay), ls.length ≤ 12 → (goF f l n i ls).1.2.length ≤ 12
  | 0, l, n, i, ls, h => by simp [goF, mz]
  | f + 1, l, n, i, ls, h => by
    unfold goF
    split
    · exact h
    split
    · simp [mz]
    · split
      · split
        · simp [mz]
        · exact goF_len f _ _ _ _ h
      · split
        · simp [mz]
        · split
          · simp [mz]
          · exact goF_len f _ _ _ _ (by simp; omega)
theorem parseF_len (l : Bytes) : (parseF l).1.2.length ≤ 12 := by
  unfold parseF
  split
  · simp [mz]
  · exact goF_len _ _ _ _ _ (by simp)
theorem parses_law {s : ByteArray} {Q : Bool → Prop} (hq : Q true) : pedagoguelaw15_ModelParses s Q := by
  refine ⟨?_⟩
  by_cases hb : (decide (5000 < (s.size : Int))) = true
  · rw [if_pos hb]; exact awake_v hq
  rw [if_neg hb]
  have hl := parseF_len s.data.toList
  refine parse_v (rparse_v (rsame_v (by omega) ?_))
  unfold jn
  dsimp only
  rw [if_pos (by simp)]
  exact awake_v hq

end Go.Proofs.YthphkjgkgdjmdaaDoor
