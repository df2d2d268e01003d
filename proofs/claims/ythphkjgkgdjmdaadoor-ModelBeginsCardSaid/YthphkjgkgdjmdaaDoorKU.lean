/- A net's beginnings may be, each of them (ModelBegins). No condition. -/
import Derived.Test.YthphkjgkgdjmdaaDoorKP
import Derived.Test.YthphkjgkgdjmdaaDoorMC
namespace Go.Proofs.YthphkjgkgdjmdaaDoor
open Go.Mach
set_option maxRecDepth 100000
set_option linter.unusedVariables false
set_option linter.unusedSimpArgs false

theorem mayM0_v {m : Mdl} {Q : Bool → Prop} (h : Q (mayMF m)) : model_May m Q := by
  by_cases hl : m.2.length ≤ 10000000000000
  · exact mayM_v hl h
  refine ⟨enters_v ?_⟩
  unfold jn
  dsimp only
  unfold mayMF at h
  cases h1 : entersB m.1 with
  | false =>
    rw [h1] at h
    rw [if_pos (by rfl), if_pos rfl]
    exact h
  | true =>
    rw [h1] at h
    rw [if_neg (by simp)]
    refine min_v ?_
    have h2 : inP (m.2.length : Int) 1 12 = false := by
      unfold inP
      rw [decide_eq_false (show ¬ (m.2.length : Int) ≤ 12 by omega), Bool.and_false]
    rw [h2] at h ⊢
    rw [if_pos (by rfl)]
    exact h

theorem take_getD {l : List Lay} {k i : Nat} (h : i < k) : (l.take k).getD i Lay0 = l.getD i Lay0 := by
  simp only [List.getD_eq_getElem?_getD, List.getElem?_take, if_pos h]

theorem mayMF_take {m : Mdl} {k : Nat} (h : mayMF m = true) (h1 : 1 ≤ k) (h2 : k ≤ m.2.length) : mayMF (m.1, m.2.take k) = true := by
  unfold mayMF at h ⊢
  simp only [Bool.and_eq_true] at h ⊢
  have hk : (m.2.take k).length = k := by rw [List.length_take]; omega
  have h12 := h.1.2
  unfold inP at h12
  simp only [Bool.and_eq_true, decide_eq_true_eq] at h12
  refine ⟨⟨h.1.1, inP_of ?_ ?_⟩, ?_⟩
  · rw [hk]; omega
  · rw [hk]; omega
  · have h3 := h.2
    unfold mayLs at h3 ⊢
    rw [List.all_eq_true] at h3 ⊢
    intro j hj
    have hj := List.mem_range.1 hj
    simp only [hk] at hj
    show mayLF ((m.2.take k).getD j Lay0) j = true
    rw [take_getD hj]
    exact h3 j (List.mem_range.2 (by omega))

theorem mayMF_add {m : Mdl} {k : Nat} (h2 : k ≤ m.2.length) (hk : k < 100) : mayMF (m.1, (([] : List Lay) ++ ((m.2.take k).drop 0)) ++ [(7, (0, (0, (0, (0, ((k : Int), false))))))]) = false := by
  unfold mayMF
  have : mayLs ((([] : List Lay) ++ ((m.2.take k).drop 0)) ++ [(7, (0, (0, (0, (0, ((k : Int), false))))))]) = false := by
    unfold mayLs
    rw [List.all_eq_false]
    have hl : (m.2.take k).length = k := by rw [List.length_take]; omega
    refine ⟨k, List.mem_range.2 (by simp [hl]), ?_⟩
    have e : ((([] : List Lay) ++ ((m.2.take k).drop 0)) ++ [(7, (0, (0, (0, (0, ((k : Int), false))))))]).getD k Lay0 = (7, (0, (0, (0, (0, ((k : Int), false)))))) := by
      rw [List.nil_append, List.drop_zero, List.getD_eq_getElem?_getD, List.getElem?_append_right (by omega), hl, Nat.sub_self]
      rfl
    rw [e]
    unfold mayLF inP
    dsimp only
    rw [if_neg (by omega), if_neg (by omega), if_neg (by omega), if_neg (by omega), if_pos rfl, wrap_i64 _ (by omega) (by omega), decide_eq_false (show ¬ (k : Int) ≤ (k : Int) - 1 by omega)]
    simp
  rw [this, Bool.and_false]

theorem mayMF_nil {i : Int × Int × Int} : mayMF (i, ([] : List Lay)) = false := by
  unfold mayMF inP
  simp

theorem take_same {m : Mdl} {k : Nat} (h2 : k ≤ m.2.length) : (decide (((m.1, m.2.take k) : Mdl) = m) == ((k : Int) == (m.2.length : Int))) = true := by
  by_cases e : k = m.2.length
  · have h : ((m.1, m.2.take k) : Mdl) = m := Prod.ext rfl (by show m.2.take k = m.2; rw [e, List.take_length])
    rw [decide_eq_true h]
    simp [e]
  · rw [decide_eq_false (fun h => e (by
      have := congrArg (fun z : Mdl => z.2.length) h
      simp only [List.length_take] at this
      omega))]
    simp
    omega

theorem begins_law {m : Mdl} {n : Int} {Q : Bool → Prop} (hq : Q true) : pedagoguelaw15_ModelBegins m n Q := by
  refine ⟨mayM0_v ?_⟩
  cases hm : mayMF m with
  | false =>
    rw [if_pos (by rfl)]
    exact awake_v hq
  | true =>
    rw [if_neg (by simp)]
    obtain ⟨_, ⟨h1, h2⟩, _⟩ := mayMF_inv hm
    have hne : m.2 ≠ [] := fun e => by rw [e] at h1; simp at h1
    have hu : IntKind.u64.wrap (m.2.length : Int) = (m.2.length : Int) := wrap_u64 _ (by omega) (by omega)
    have hr0 : 0 ≤ IntKind.u64.wrap n := by
      simp only [IntKind.wrap, IntKind.bits, IntKind.signed]; simp; omega
    rw [hu]
    obtain ⟨r, hr⟩ := Int.eq_ofNat_of_zero_le hr0
    rw [hr]
    have ht : (r : Int).tmod (m.2.length : Int) = ((r % m.2.length : Nat) : Int) := by
      rw [Int.tmod_eq_emod_of_nonneg (by omega)]; rfl
    have hlt : r % m.2.length < m.2.length := Nat.mod_lt _ (by omega)
    rw [ht]
    generalize r % m.2.length = k at hlt
    rw [wrap_i64 (k : Int) (by omega) (by omega)]
    have hk : IntKind.i64.wrap (1 + (k : Int)) = ((k + 1 : Nat) : Int) := by rw [wrap_i64 _ (by omega) (by omega)]; omega
    have hk1 : IntKind.i64.wrap (((k + 1 : Nat) : Int) - 1) = (k : Int) := by rw [wrap_i64 _ (by omega) (by omega)]; omega
    rw [hk, hk1]
    simp only [Int.toNat_natCast, Int.toNat_zero, List.drop_zero, List.nil_append]
    have hl1 : (m.2.take k).length = k := by rw [List.length_take]; omega
    have hl2 : (m.2.take (k + 1)).length = k + 1 := by rw [List.length_take]; omega
    refine ⟨by omega, ⟨hne, by omega, by omega, by omega⟩, ⟨hne, by omega, by omega, by omega⟩, by simp; omega, by simp; omega, mayM0_v ?_⟩
    rw [mayMF_take hm (by omega) (by omega)]
    unfold jn
    dsimp only
    rw [if_pos rfl]
    refine mayM0_v ?_
    have hadd := mayMF_add (m := m) (k := k) (by omega) (by omega)
    rw [List.nil_append, List.drop_zero] at hadd
    rw [hadd]
    rw [if_pos (by rfl)]
    refine mayM0_v ?_
    rw [mayMF_nil, if_pos (by rfl)]
    refine msame_v (by show (m.2.take (k + 1)).length ≤ _; omega) ?_
    rw [decide_eq_true rfl, if_pos rfl]
    refine msame_v (by show (m.2.take (k + 1)).length ≤ _; omega) ?_
    rw [take_same (by omega), if_pos rfl]
    exact awake_v hq

end Go.Proofs.YthphkjgkgdjmdaaDoor
