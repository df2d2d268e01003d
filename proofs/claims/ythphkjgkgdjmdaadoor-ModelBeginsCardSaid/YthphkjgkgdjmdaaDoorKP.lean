/- A text as a net (model.Parse). Laws; no condition. -/
import Derived.Test.YthphkjgkgdjmdaaDoorKL
namespace Go.Proofs.YthphkjgkgdjmdaaDoor
open Go.Mach
set_option maxRecDepth 100000
set_option linter.unusedVariables false
set_option linter.unusedSimpArgs false

def mz : Mdl := ((0, 0, 0), [])
def lineF (a : Bytes) (k : Nat) : Option Lay :=
  match layerF a with
  | some x => if mayLF x k = true then some x else none
  | none => none
/-- The rest of a text, behind n lines. -/
def goF : Nat → Bytes → Nat → (Int × Int × Int) → List Lay → Mdl × Int × Int
  | 0, _, n, _, _ => (mz, (n : Int) + 1, 5)
  | k + 1, l, n, i, ls =>
    if l = [] ∧ 2 ≤ n then ((i, ls), 0, 0)
    else match brk 10 l with
      | none => (mz, (n : Int) + 1, 5)
      | some (a, r) =>
        if n = 0 then (match firstF a with
          | none => (mz, (n : Int) + 1, 5)
          | some i' => goF k r 1 i' ls)
        else match lineF a ls.length with
          | none => (mz, (n : Int) + 1, 5)
          | some x => if ls.length = 12 then (mz, (n : Int) + 1, 10) else goF k r (n + 1) i (ls ++ [x])
def parseF (l : Bytes) : Mdl × Int × Int := if 2000 < l.length then (mz, 0, 10) else goF (l.length + 1) l 0 (0, 0, 0) []
theorem brk_len {c : UInt8} : ∀ {l a r : Bytes}, brk c l = some (a, r) → a.length + 1 + r.length = l.length
  | [], a, r, h => by cases h
  | x :: l, a, r, h => by
    unfold brk at h
    split at h
    · cases h; simp; omega
    · split at h
      · rename_i h1
        cases h
        have := brk_len h1
        simp; omega
      · cases h

theorem parse_v {s : ByteArray} {Q : Mdl × Int × Int → Prop} (h : Q (parseF s.data.toList)) : model_Parse s Q := by
  have hl : s.data.toList.length = s.size := rfl
  refine ⟨?_⟩
  unfold parseF at h
  by_cases h1 : 2000 < s.data.toList.length
  · rw [if_pos h1] at h
    rw [if_pos (decide_eq_true (by omega))]
    exact ⟨h⟩
  rw [if_neg h1] at h
  rw [if_neg (by simp; omega)]
  refine ⟨?_⟩
  refine Loop.inv (fun k st => ∃ (l : Bytes) (n : Nat) (i : Int × Int × Int) (x : Lay) (ls : List Lay), st = (B l, (n : Int), i.1, i.2.1, i.2.2, x.1, x.2.1, x.2.2.1, x.2.2.2.1, x.2.2.2.2.1, x.2.2.2.2.2.1, x.2.2.2.2.2.2, ls) ∧
    l.length < k ∧ n + l.length ≤ 2000 ∧ ls.length ≤ 12 ∧ Q (goF k l n i ls)) (n := s.data.toList.length + 1) ⟨s.data.toList, 0, (0, 0, 0), Lay0, [], rfl, by omega, by omega, by simp, h⟩ ?_
  rintro k st X ⟨l, n, i, x, ls, rfl, hk, hb, hls, hQ⟩ hX
  cases k with
  | zero => omega
  | succ k =>
  have hnb : n ≤ 2000 := by omega
  have hw : IntKind.i64.wrap ((n : Int) + 1) = (n : Int) + 1 := wrap_i64 _ (by omega) (by omega)
  unfold model_Parse_n1_B
  dsimp only
  rw [show (⟨#[]⟩ : ByteArray) = B [] from rfl, tst, hw]
  unfold goF at hQ
  by_cases he : l = [] ∧ 2 ≤ n
  · rw [if_pos he] at hQ
    rw [if_pos (by simp [he.1]; omega)]
    exact hQ
  rw [if_neg he] at hQ
  rw [if_neg (by
    intro k
    simp only [Bool.and_eq_true, decide_eq_true_eq] at k
    exact he ⟨k.1, by omega⟩)]
  refine ⟨by rw [B_size]; omega, ?_⟩
  rw [cutS_brk, data_B]
  cases hbr : brk 10 l with
  | none =>
    rw [hbr] at hQ
    rw [if_pos (by rfl)]
    exact ⟨hQ⟩
  | some p =>
    obtain ⟨a, r⟩ := p
    have hlen := brk_len hbr
    rw [hbr] at hQ
    simp only at hQ
    rw [if_neg (by simp)]
    by_cases hn : n = 0
    · subst hn
      rw [if_pos rfl] at hQ
      rw [if_pos (by rfl)]
      refine first_v (by rw [B_size]; omega) ?_
      rw [data_B]
      cases hf : firstF a with
      | none =>
        rw [hf] at hQ
        rw [if_pos (by rfl)]
        exact ⟨hQ⟩
      | some i' =>
        rw [hf] at hQ
        rw [if_neg (by simp [optI])]
        exact hX k _ (by omega) ⟨r, 1, i', x, ls, rfl, by omega, by omega, hls, hQ⟩
    · rw [if_neg hn] at hQ
      rw [if_neg (by simp; omega)]
      refine layer_v (by rw [B_size]; omega) ?_
      rw [data_B]
      unfold jn
      dsimp only
      unfold lineF at hQ
      cases hf : layerF a with
      | none =>
        rw [hf] at hQ
        rw [if_pos (by rfl), if_pos rfl]
        exact ⟨hQ⟩
      | some y =>
        rw [hf] at hQ
        rw [if_neg (by simp [optL])]
        refine mayL_v ?_
        show if (!mayLF y (ls.length : Int)) = true then _ else _
        cases hm : mayLF y (ls.length : Int) with
        | false =>
          simp only [hm, Bool.false_eq_true, if_false] at hQ
          rw [if_pos (by rfl)]
          exact ⟨hQ⟩
        | true =>
          simp only [hm, if_true] at hQ
          rw [if_neg (by simp)]
          by_cases h12 : ls.length = 12
          · rw [if_pos h12] at hQ
            rw [if_pos (by simp [h12])]
            exact ⟨hQ⟩
          · rw [if_neg h12] at hQ
            rw [if_neg (by simp; omega)]
            refine ⟨by simp; omega, ?_⟩
            exact hX k _ (by omega) ⟨r, n + 1, i, y, ls ++ [y], rfl, by omega, by omega, by simp; omega, hQ⟩

/-- The text that every program must know. -/
theorem awake_v {Q : Bool → Prop} (h : Q true) : pedagoguelaw15_awake Q := by
  refine ⟨parse_v ?_⟩
  have e : parseF sc_e1296f34.data.toList = (((1, 1, 2), [(6, 0, 0, 0, 0, 0, false), (1, 3, 0, 0, 0, 0, false)]), 0, 0) := by decide +kernel
  rw [e]
  unfold jn
  dsimp only
  rw [if_pos (by rfl)]
  exact ⟨by simp, h⟩

end Go.Proofs.YthphkjgkgdjmdaaDoor
