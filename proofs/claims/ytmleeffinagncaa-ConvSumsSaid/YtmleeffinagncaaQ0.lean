/- How many numbers a shape has, behind doors. Laws; no condition. -/
import Derived.Test.YtmleeffinagncaaP1
import Derived.Test.YtmleeffinagncaaVJoin
namespace Go.Proofs.Ytmleeffinagncaa
open Go.Mach Go.RowKit
set_option maxRecDepth 100000
set_option linter.unusedVariables false
set_option linter.unusedSimpArgs false

def szGo : Int → List Int → Int
  | acc, [] => acc
  | acc, d :: r => if ((decide (d < 1) || decide (4096 < d)) || decide (8192 < IntKind.i64.wrap (acc * d))) = true then 0 else szGo (IntKind.i64.wrap (acc * d)) r
def szF (l : List Int) : Int := if (decide ((l.length : Int) < 1) || decide (4 < (l.length : Int))) = true then 0 else szGo 1 l
theorem szGo_le : ∀ (l : List Int) (acc : Int), acc ≤ 8192 → szGo acc l ≤ 8192
  | [], acc, h => h
  | d :: r, acc, h => by
    unfold szGo
    split
    · omega
    · rename_i hn
      simp only [Bool.or_eq_true, decide_eq_true_eq, not_or] at hn
      exact szGo_le r _ (by omega)
theorem szF_le (l : List Int) : szF l ≤ 8192 := by
  unfold szF
  split
  · omega
  · exact szGo_le l 1 (by omega)
theorem size_v {a : List Int} {Q : Int → Prop} (h : Q (szF a)) : shape_Size a Q := by
  refine ⟨?_⟩
  unfold shape_Size_t
  unfold szF at h
  by_cases e : (decide ((a.length : Int) < 1) || decide (4 < (a.length : Int))) = true
  · rw [if_pos e] at h ⊢; exact h
  · rw [if_neg e] at h ⊢
    simp only [Bool.or_eq_true, decide_eq_true_eq, not_or] at e
    obtain ⟨z, hzz⟩ : ∃ z, szGo 1 a = z := ⟨_, rfl⟩
    rw [hzz] at h
    refine ⟨?_⟩
    refine Loop.inv (n := a.length) (fun m s => ∃ i : Nat, i + m = a.length ∧ s.2 = (i : Int) ∧ szGo s.1 (a.drop i) = z) ⟨0, by omega, rfl, hzz⟩ ?_
    rintro m ⟨acc, i'⟩ X ⟨i, hi, he, hz⟩ hX
    simp only at he hz
    subst he
    unfold shape_Size_n0_B
    by_cases hlt : i < a.length
    · have hd : a.drop i = a.getD i 0 :: a.drop (i + 1) := by
        rw [List.drop_eq_getElem_cons hlt, List.getD_eq_getElem?_getD, List.getElem?_eq_getElem hlt]; rfl
      rw [hd] at hz
      rw [if_pos (by simpa using hlt)]
      refine ⟨by simp only []; omega, ?_⟩
      simp only [Int.toNat_natCast]
      unfold szGo at hz
      split
      · rename_i hc
        rw [if_pos hc] at hz
        rw [← hz] at h; exact h
      · rename_i hc
        rw [if_neg hc] at hz
        refine hX (m - 1) _ (by omega) ⟨i + 1, by omega, ?_, hz⟩
        show IntKind.i64.wrap ((i : Int) + 1) = _
        rw [wrap_i64 _ (by omega) (by omega)]; rfl
    · have hil : i = a.length := by omega
      subst hil
      rw [if_neg (by simp)]
      rw [List.drop_length] at hz
      unfold szGo at hz
      show Q acc
      rw [hz]; exact h
theorem may_v {a : List Int} {Q : Bool → Prop} (h : Q (decide (0 < szF a))) : shape_May a Q := by
  refine ⟨?_⟩
  unfold shape_May_t
  exact size_v h

end Go.Proofs.Ytmleeffinagncaa
