/- Rows of bytes cut at a byte: strings.Split, strings.Cut; a line's words and numbers (model.cut). Laws; no condition. -/
import Derived.Test.YthphkjgkgdjmdaaDoorKN
import Derived.Lib.SplitLaws
namespace Go.Proofs.YthphkjgkgdjmdaaDoor
open Go.Mach
set_option maxRecDepth 100000
set_option linter.unusedVariables false
set_option linter.unusedSimpArgs false

abbrev Bytes := List UInt8
def B (l : Bytes) : ByteArray := ⟨l.toArray⟩
theorem B_data (s : ByteArray) : B s.data.toList = s := rfl
theorem data_B (l : Bytes) : (B l).data.toList = l := rfl
theorem B_inj {a b : Bytes} (h : B a = B b) : a = b := by rw [← data_B a, h]; rfl
theorem B_size (l : Bytes) : (B l).size = l.length := rfl

/-- Cut at a byte, everywhere. -/
def spl (c : UInt8) : Bytes → List Bytes
  | [] => [[]]
  | x :: r => if x = c then [] :: spl c r else match spl c r with
    | [] => [[x]]
    | h :: t => (x :: h) :: t
theorem spl_ne (c : UInt8) : ∀ l, spl c l ≠ []
  | [] => by simp [spl]
  | x :: r => by
    unfold spl
    split
    · simp
    · split <;> simp
theorem spl_none (c : UInt8) : ∀ l : Bytes, c ∉ l → spl c l = [l]
  | [], _ => rfl
  | x :: r, h => by
    have hx : x ≠ c := fun e => h (by rw [e]; simp)
    unfold spl
    rw [if_neg hx, spl_none c r (fun k => h (List.mem_cons_of_mem _ k))]
theorem index_one (c : UInt8) : ∀ l : Bytes, (c ∉ l → Lib.index l [c] = -1) ∧ (c ∈ l → ∃ i : Nat, Lib.index l [c] = i)
  | [] => ⟨fun _ => rfl, fun h => by simp at h⟩
  | x :: r => by
    have ih := index_one c r
    have e : ([c].isPrefixOf (x :: r)) = (c == x) := by simp [List.isPrefixOf]
    constructor
    · intro h
      have hx : (c == x) = false := by rw [beq_eq_false_iff_ne]; intro e; exact h (by rw [e]; simp)
      unfold Lib.index
      rw [e, hx, ih.1 (fun k => h (List.mem_cons_of_mem _ k))]
      rfl
    · intro h
      unfold Lib.index
      rw [e]
      by_cases hx : c = x
      · exact ⟨0, by rw [hx]; simp⟩
      · have hx' : (c == x) = false := by rw [beq_eq_false_iff_ne]; exact hx
        obtain ⟨i, hi⟩ := ih.2 (by
          rcases List.mem_cons.1 h with h | h
          · exact absurd h hx
          · exact h)
        refine ⟨i + 1, ?_⟩
        rw [hx', hi]
        simp only [Bool.false_eq_true, if_false]
        rw [if_neg (by simp only [beq_iff_eq]; omega)]
        rfl
theorem index_cons (c x : UInt8) (r : Bytes) : Lib.index (x :: r) [c] = if x = c then 0 else if Lib.index r [c] = -1 then -1 else Lib.index r [c] + 1 := by
  have e : ([c].isPrefixOf (x :: r)) = (c == x) := by simp [List.isPrefixOf]
  conv => lhs; unfold Lib.index
  rw [e]
  by_cases hx : x = c
  · rw [if_pos hx, if_pos (by simp [hx])]
  · rw [if_neg hx, if_neg (by simp [Ne.symm hx])]
    by_cases h1 : Lib.index r [c] = -1
    · rw [if_pos (by simp [h1]), if_pos h1]
    · rw [if_neg (by simp [h1]), if_neg h1]
theorem splitK_spl (c : UInt8) : ∀ l : Bytes, Lib.splitK [c] 0 (l.count c) l = spl c l
  | [] => rfl
  | x :: r => by
    have ih := splitK_spl c r
    by_cases hx : x = c
    · subst hx
      rw [List.count_cons_self]
      unfold Lib.splitK spl
      rw [index_cons, if_pos rfl, if_neg (by decide)]
      simp only [Int.toNat_zero, Nat.zero_add, List.take_zero, List.length_cons, List.length_nil, List.drop_succ_cons, List.drop_zero, if_true]
      rw [ih]
    · rw [List.count_cons_of_ne (by simpa using hx)]
      unfold spl
      rw [if_neg hx]
      by_cases hm : c ∈ r
      · obtain ⟨i, hi⟩ := (index_one c r).2 hm
        obtain ⟨k, hk⟩ : ∃ k, r.count c = k + 1 := ⟨r.count c - 1, by have := List.count_pos_iff.2 hm; omega⟩
        rw [hk] at ih ⊢
        unfold Lib.splitK at ih ⊢
        rw [index_cons, if_neg hx, hi, if_neg (show ¬ ((i : Int) = -1) by omega)]
        rw [hi, if_neg (by simp only [beq_iff_eq]; omega)] at ih
        rw [if_neg (by simp only [beq_iff_eq]; omega)]
        rw [← ih]
        have e1 : ((i : Int) + 1).toNat = i + 1 := by omega
        simp only [e1, Nat.add_zero, Int.toNat_natCast, List.take_succ_cons, List.length_cons, List.length_nil, Nat.zero_add, List.drop_succ_cons]
      · rw [List.count_eq_zero.2 hm, spl_none c r hm]
        rfl
theorem map_inj_B : ∀ {a : List ByteArray} {b : List Bytes}, a.map (·.data.toList) = b → a = b.map B
  | [], b, h => by subst h; rfl
  | x :: a, b, h => by
    subst h
    simp only [List.map_cons]
    rw [← map_inj_B (a := a) rfl]
    rfl
theorem splitS_spl (s : ByteArray) (c : UInt8) : splitS s ⟨#[c]⟩ = (spl c s.data.toList).map B := by
  refine map_inj_B ?_
  unfold splitS
  rw [Lib.splitB_data]
  have hc : Lib.countB s ⟨#[c]⟩ = s.data.toList.count c := Lib.count_one c s.data.toList
  rw [hc]
  exact splitK_spl c _

/-- Cut at the first such byte. -/
def brk (c : UInt8) : Bytes → Option (Bytes × Bytes)
  | [] => none
  | x :: r => if x = c then some ([], r) else match brk c r with
    | some (a, b) => some (x :: a, b)
    | none => none
theorem cut_brk (c : UInt8) : ∀ l : Bytes, Lib.cut l [c] = match brk c l with
    | some (a, b) => (a, b, true)
    | none => (l, [], false)
  | [] => rfl
  | x :: r => by
    have ih := cut_brk c r
    unfold Lib.cut at ih ⊢
    unfold brk
    rw [index_cons]
    by_cases hx : x = c
    · rw [if_pos hx, if_pos (by omega), if_pos hx]
      rfl
    · rw [if_neg hx, if_neg hx]
      by_cases h1 : Lib.index r [c] = -1
      · rw [if_pos h1, if_neg (by omega)]
        rw [h1, if_neg (by omega)] at ih
        cases hb : brk c r with
        | none => rfl
        | some p => rw [hb] at ih; simp at ih
      · have h2 : 0 ≤ Lib.index r [c] := by have := Lib.index_ge r [c]; omega
        rw [if_neg h1, if_pos (by omega)]
        rw [if_pos h2] at ih
        cases hb : brk c r with
        | none => rw [hb] at ih; simp at ih
        | some p =>
          obtain ⟨a, b⟩ := p
          rw [hb] at ih
          simp only [Prod.mk.injEq] at ih ⊢
          obtain ⟨i1, i2, _⟩ := ih
          have e1 : (Lib.index r [c] + 1).toNat = (Lib.index r [c]).toNat + 1 := by omega
          refine ⟨?_, ?_, trivial⟩
          · rw [e1, List.take_succ_cons, i1]
          · rw [e1, ← i2]
            simp only [List.length_cons, List.length_nil]
            rw [show (Lib.index r [c]).toNat + 1 + (0 + 1) = ((Lib.index r [c]).toNat + (0 + 1)) + 1 by omega, List.drop_succ_cons]
theorem cutS_brk (s : ByteArray) (c : UInt8) : cutS s ⟨#[c]⟩ = match brk c s.data.toList with
    | some (a, b) => (B a, B b, true)
    | none => (s, B [], false) := by
  have h := cut_brk c s.data.toList
  unfold cutS
  have e : (⟨#[c]⟩ : ByteArray).data.toList = [c] := rfl
  rw [e, h]
  cases brk c s.data.toList with
  | none => rfl
  | some p => rfl

/-! ### A line's words -/
def numsF : List Bytes → Option (List Int)
  | [] => some []
  | w :: r => match digF w, numsF r with
    | some n, some l => some (n :: l)
    | _, _ => none
theorem numsF_app : ∀ (a b : List Bytes), numsF (a ++ b) = match numsF a, numsF b with
    | some l, some m => some (l ++ m)
    | _, _ => none
  | [], b => by cases h : numsF b <;> simp [numsF, h]
  | w :: r, b => by
    simp only [List.cons_append, numsF, numsF_app r b]
    cases digF w <;> cases numsF r <;> cases numsF b <;> rfl
theorem numsF_len : ∀ {a : List Bytes} {l : List Int}, numsF a = some l → l.length = a.length
  | [], l, h => by cases h; rfl
  | w :: r, l, h => by
    simp only [numsF] at h
    split at h
    · rename_i h1 h2
      cases h
      simp [numsF_len h2]
    · cases h
def cutF (l : Bytes) : Option (Bytes × List Int) :=
  match spl 32 l with
  | w :: r => match numsF r with
    | some ns => some (w, ns)
    | none => none
  | [] => none
theorem spl_len (c : UInt8) : ∀ l : Bytes, (spl c l).length ≤ l.length + 1
  | [] => by simp [spl]
  | x :: r => by
    have ih := spl_len c r
    unfold spl
    split
    · simp; omega
    · split
      · simp
      · rename_i h; rw [h] at ih; simp at ih ⊢; omega
theorem spl_word (c : UInt8) : ∀ l : Bytes, ∀ w ∈ spl c l, w.length ≤ l.length
  | [], w, h => by simp [spl] at h; rw [h]; simp
  | x :: r, w, h => by
    have ih := spl_word c r
    unfold spl at h
    split at h
    · rcases List.mem_cons.1 h with h | h
      · rw [h]; simp
      · have := ih w h; simp; omega
    · split at h
      · simp at h; rw [h]; simp
      · rename_i h1
        rcases List.mem_cons.1 h with h | h
        · have := ih _ (by rw [h1]; exact List.mem_cons_self ..)
          rw [h]; simp; omega
        · have := ih w (by rw [h1]; exact List.mem_cons_of_mem _ h)
          simp; omega

/-- One word: a number, or not. -/
theorem word_v {w : ByteArray} {K1 : Prop} {K0 : Int → Prop} (hs : w.size ≤ 281474976710656) (h : match digF w.data.toList with
    | some n => K0 n
    | none => K1) (hb : ∀ n, digF w.data.toList = some n → K0 n) :
    strconv_Atoi w (fun r6 => jn (fun (v7 : Bool) => if v7 = true then K1 else K0 r6.1) (fun J8 => if (((!r6.2) || (decide (r6.1 < 0))) || (decide (4 < (w.size : Int)))) = true then J8 true else strconv_Itoa r6.1 (fun (r9 : ByteArray) => J8 (!(r9.toList == w.toList))))) := by
  refine ⟨hs, ?_⟩
  have hn := numW_eq w
  unfold numW at hn
  unfold jn
  dsimp only
  by_cases hc : (((!(atoiS w).2) || (decide ((atoiS w).1 < 0))) || (decide (4 < (w.size : Int)))) = true
  · rw [if_pos hc, if_pos rfl]
    rw [if_neg] at hn
    · rw [← hn] at h; exact h
    · rintro ⟨h1, h2, h3, _⟩
      rw [h1] at hc
      simp at hc
      omega
  · rw [if_neg hc]
    have hc2 : (atoiS w).2 = true ∧ 0 ≤ (atoiS w).1 ∧ w.size ≤ 4 := by
      simp at hc
      exact ⟨hc.1.1, by omega, by omega⟩
    have hv : Lib.atoiAll w.data.toList = .ok (atoiS w).1 := atoiS_ok (by rw [← hc2.1])
    have hbd := Lib.atoiAll_bounds hv
    refine ⟨hbd, ?_⟩
    dsimp only
    rw [bytes_eq]
    by_cases he : itoaS (atoiS w).1 = w
    · rw [decide_eq_true he, if_neg (by simp)]
      rw [if_pos ⟨hc2.1, hc2.2.1, hc2.2.2, he⟩] at hn
      exact hb _ hn.symm
    · rw [decide_eq_false he, if_pos (by rfl)]
      rw [if_neg (fun k => he k.2.2.2)] at hn
      rw [← hn] at h; exact h

theorem getD_map_B (l : List Bytes) (i : Nat) (h : i < l.length) : (l.map B).getD i ByteArray.empty = B (l.getD i []) := by
  simp only [List.getD_eq_getElem?_getD, List.getElem?_map, List.getElem?_eq_getElem h, Option.map_some, Option.getD_some]

/-- model.cut. -/
theorem mcut_v {s : ByteArray} {Q : (ByteArray × List Int) × Bool → Prop} (hs : s.size ≤ 1000000) (h : Q (match cutF s.data.toList with
    | some (w, ns) => ((B w, ns), true)
    | none => ((ByteArray.empty, []), false))) : model_cut s Q := by
  refine ⟨⟨⟨by omega, by decide⟩, ?_⟩⟩
  rw [splitS_spl]
  have hlen : s.data.toList.length = s.size := rfl
  have h1 := spl_len 32 s.data.toList
  have hw := spl_word 32 s.data.toList
  unfold cutF at h
  cases hsp : spl 32 s.data.toList with
  | nil => exact absurd hsp (spl_ne 32 _)
  | cons w r =>
    rw [hsp] at h h1 hw
    simp only at h
    simp only [List.length_cons] at h1
    simp only [List.map_cons]
    refine ⟨by simp, ⟨trivial, by omega, by simp; omega, by omega⟩, ?_⟩
    have e : ((B w :: r.map B).take (((B w :: r.map B).length : Int)).toNat).drop ((1 : Int)).toNat = r.map B := by
      rw [Int.toNat_natCast, List.take_length]
      rfl
    rw [e]
    refine ⟨?_⟩
    refine Loop.range (B := model_cut_n0_B (r.map B) ((r.map B).length : Int) (fun y10 => Q (((B w :: r.map B).getD 0 ByteArray.empty, y10), true)) (fun y11 => Q ((y11, ([] : List Int)), false))) r.length
      (fun i => ((i : Int), ((numsF (r.take i)).getD []))) (fun i => ∃ l, numsF (r.take i) = some l) ⟨[], by simp [numsF]⟩ ?_ ?_
    · intro i hi ⟨l, hl⟩ X hX
      unfold model_cut_n0_B
      simp only [List.length_map, Int.toNat_natCast]
      rw [if_pos (decide_eq_true (show (i : Int) < (r.length : Int) by omega))]
      refine ⟨by omega, ?_⟩
      simp only [getD_map_B r i hi]
      have hwi : r.getD i [] ∈ w :: r := by
        rw [List.getD_eq_getElem?_getD, List.getElem?_eq_getElem hi]
        exact List.mem_cons_of_mem _ (List.getElem_mem hi)
      have hsz := hw _ hwi
      have hne : numsF (r.take (i + 1)) = match digF (r.getD i []) with
          | some n => some (l ++ [n])
          | none => none := by
        rw [List.take_add_one, numsF_app, hl, List.getD_eq_getElem?_getD, List.getElem?_eq_getElem hi]
        simp only [Option.getD_some, Option.toList_some, numsF]
        cases digF r[i] <;> rfl
      have hll := numsF_len hl
      have hnext : ∀ n, digF (r.getD i []) = some n → ck ((l.length + [n].length) * 8 ≤ 140737488355328) (X (IntKind.i64.wrap ((i : Int) + 1), l ++ [n])) := by
        intro n hn
        rw [hn] at hne
        refine ⟨by rw [hll]; simp; omega, ?_⟩
        have := hX ⟨_, hne⟩
        rw [wrap_i64 _ (by omega) (by omega)]
        rw [hne] at this
        exact this
      simp only [hl, Option.getD_some]
      refine word_v (w := B (r.getD i [])) (K1 := Q ((ByteArray.empty, ([] : List Int)), false)) (K0 := fun n => ck ((l.length + [n].length) * 8 ≤ 140737488355328) (X (IntKind.i64.wrap ((i : Int) + 1), l ++ [n]))) (by rw [B_size]; omega) ?_ ?_
      · rw [data_B]
        cases hd : digF (r.getD i []) with
        | some n => exact hnext n hd
        | none =>
          have : numsF r = none := by
            rw [← List.take_append_drop (i + 1) r, numsF_app, hne, hd]
          rw [this] at h
          exact h
      · intro n hn
        rw [data_B] at hn
        exact hnext n hn
    · intro ⟨l, hl⟩ X
      unfold model_cut_n0_B
      simp only [List.length_map]
      rw [if_neg (by simp)]
      rw [List.take_length] at hl
      simp only [List.take_length]
      rw [hl] at h ⊢
      exact h

end Go.Proofs.YthphkjgkgdjmdaaDoor
