/- The line that is told is the first wrong one (ModelTells). No condition. -/
import Derived.Test.YthphkjgkgdjmdaaDoorKP
import Derived.Test.YthphkjgkgdjmdaaDoorMB
namespace Go.Proofs.YthphkjgkgdjmdaaDoor
open Go.Mach
set_option maxRecDepth 100000
set_option linter.unusedVariables false
set_option linter.unusedSimpArgs false

/-- So many lines, each with its end. -/
inductive NL : Bytes → Nat → Prop
  | nil : NL [] 0
  | cons {a p : Bytes} {j : Nat} (ha : (10 : UInt8) ∉ a) (h : NL p j) : NL (a ++ 10 :: p) (j + 1)

theorem brk_app {c : UInt8} : ∀ {a : Bytes} (r : Bytes), c ∉ a → brk c (a ++ c :: r) = some (a, r)
  | [], r, h => by simp [brk]
  | x :: a, r, h => by
    have hx : x ≠ c := fun e => h (by rw [e]; simp)
    simp only [List.cons_append, brk]
    rw [if_neg hx, brk_app r (fun k => h (List.mem_cons_of_mem _ k))]
theorem brk_some {c : UInt8} : ∀ {l a r : Bytes}, brk c l = some (a, r) → l = a ++ c :: r ∧ c ∉ a
  | [], a, r, h => by cases h
  | x :: l, a, r, h => by
    unfold brk at h
    split at h
    · rename_i hx; cases h; rw [hx]; exact ⟨rfl, by simp⟩
    · rename_i hx
      split at h
      · rename_i h1
        cases h
        obtain ⟨e1, e2⟩ := brk_some h1
        exact ⟨by rw [e1]; rfl, fun k => by
          rcases List.mem_cons.1 k with k | k
          · exact hx k.symm
          · exact e2 k⟩
      · cases h

theorem go_tells : ∀ (k : Nat) (l : Bytes) (n : Nat) (i : Int × Int × Int) (ls : List Lay) (m : Mdl) (N e : Int), l.length < k → goF k l n i ls = (m, N, e) → e ≠ 0 →
    ∃ (j : Nat) (p q : Bytes), N = (n : Int) + 1 + j ∧ l = p ++ q ∧ NL p j ∧ (e = 5 ∨ e = 10) ∧ ∀ k', p.length < k' → (2 ≤ n + j → (goF k' p n i ls).2.2 = 0) ∧ (¬ 2 ≤ n + j → (goF k' p n i ls).2 = (N, 5))
  | 0, l, n, i, ls, m, N, e, hk, h, he => by omega
  | k + 1, l, n, i, ls, m, N, e, hk, h, he => by
    have stop : (e = 5 ∨ e = 10) → N = (n : Int) + 1 → ∃ (j : Nat) (p q : Bytes), N = (n : Int) + 1 + j ∧ l = p ++ q ∧ NL p j ∧ (e = 5 ∨ e = 10) ∧ ∀ k', p.length < k' → (2 ≤ n + j → (goF k' p n i ls).2.2 = 0) ∧ (¬ 2 ≤ n + j → (goF k' p n i ls).2 = (N, 5)) := fun h5 hN =>
      ⟨0, [], l, by omega, rfl, .nil, h5, fun k' hk' => by
        cases k' with
        | zero => omega
        | succ k' =>
          unfold goF
          refine ⟨fun h2 => by rw [if_pos ⟨rfl, by omega⟩], fun h2 => by rw [if_neg (fun k => h2 (by omega))]; simp [brk, hN]⟩⟩
    unfold goF at h
    split at h
    · cases h; exact absurd rfl he
    · split at h
      · cases h; exact stop (.inl rfl) rfl
      · rename_i a r hb
        obtain ⟨e1, e2⟩ := brk_some hb
        have hlen := brk_len hb
        split at h
        · rename_i hn
          split at h
          · cases h; exact stop (.inl rfl) rfl
          · rename_i i' hf
            obtain ⟨j, p, q, g1, g2, g3, g4, g5⟩ := go_tells k r 1 i' ls m N e (by omega) h he
            refine ⟨j + 1, a ++ 10 :: p, q, by omega, by rw [e1, g2]; simp, .cons e2 g3, g4, fun k' hk' => ?_⟩
            cases k' with
            | zero => omega
            | succ k' =>
              have hp : p.length < k' := by simp at hk'; omega
              have := g5 k' hp
              unfold goF
              rw [if_neg (fun h => by have := h.1; simp at this), brk_app p e2]
              simp only [hn, if_true, hf]
              exact ⟨fun h2 => this.1 (by omega), fun h2 => this.2 (by omega)⟩
        · rename_i hn
          split at h
          · cases h; exact stop (.inl rfl) rfl
          · rename_i x hf
            split at h
            · cases h; exact stop (.inr rfl) rfl
            · rename_i h12
              obtain ⟨j, p, q, g1, g2, g3, g4, g5⟩ := go_tells k r (n + 1) i (ls ++ [x]) m N e (by omega) h he
              refine ⟨j + 1, a ++ 10 :: p, q, by omega, by rw [e1, g2]; simp, .cons e2 g3, g4, fun k' hk' => ?_⟩
              cases k' with
              | zero => omega
              | succ k' =>
                have hp : p.length < k' := by simp at hk'; omega
                have := g5 k' hp
                unfold goF
                rw [if_neg (fun h => by have := h.1; simp at this), brk_app p e2]
                simp only [if_neg hn, hf, if_neg h12]
                exact ⟨fun h2 => this.1 (by omega), fun h2 => this.2 (by omega)⟩

/-- Where the m-th line ends. -/
def scan (m : Nat) : Bytes → Nat → Nat → Nat → Nat × Nat
  | [], _, at_, lines => (at_, lines)
  | b :: r, pos, at_, lines => if b = 10 ∧ lines < m then scan m r (pos + 1) (pos + 1) (lines + 1) else scan m r (pos + 1) at_ lines
theorem scan_full (m : Nat) : ∀ (l : Bytes) (pos at_ : Nat), scan m l pos at_ m = (at_, m)
  | [], _, _ => rfl
  | b :: r, pos, at_ => by
    unfold scan
    rw [if_neg (fun k => by omega)]
    exact scan_full m r _ _
theorem scan_skip (m : Nat) : ∀ (a l : Bytes) (pos at_ lines : Nat), (10 : UInt8) ∉ a → scan m (a ++ l) pos at_ lines = scan m l (pos + a.length) at_ lines
  | [], l, pos, at_, lines, _ => rfl
  | x :: a, l, pos, at_, lines, h => by
    simp only [List.cons_append, scan]
    rw [if_neg (fun k => h (by rw [← k.1]; simp)), scan_skip m a l _ _ _ (fun k => h (List.mem_cons_of_mem _ k))]
    congr 1
    simp; omega
theorem scan_nl {p : Bytes} {j : Nat} (h : NL p j) : ∀ (q : Bytes) (m pos lines : Nat), lines + j = m → scan m (p ++ q) pos pos lines = (pos + p.length, m) := by
  induction h with
  | nil =>
    intro q m pos lines hm
    have : lines = m := by omega
    subst this
    simp only [List.nil_append, List.length_nil, Nat.add_zero]
    exact scan_full _ q pos pos
  | cons ha h ih =>
    rename_i a p j
    intro q m pos lines hm
    rw [List.append_assoc, scan_skip m a _ _ _ _ ha]
    simp only [List.cons_append, scan]
    rw [if_pos ⟨trivial, by omega⟩, ih q m _ _ (by omega)]
    congr 1
    simp; omega

theorem scan_v {s : ByteArray} {N : Nat} {K0 : Int × Int → Prop} (hs : s.size ≤ 2000) (hN : N ≤ 3000) (hN1 : 1 ≤ N) (h : K0 ((scan (N - 1) s.data.toList 0 0 0).1, (scan (N - 1) s.data.toList 0 0 0).2)) :
    pedagoguelaw15_ModelTells_n1 s (N : Int) (s.size : Int) K0 (0, 0, 0) := by
  have hl : s.data.toList.length = s.size := rfl
  refine ⟨?_⟩
  refine Loop.inv (fun k st => ∃ (at_ lines i : Nat), st = ((at_ : Int), (lines : Int), (i : Int)) ∧ i + k = s.size + 1 ∧ i ≤ s.size ∧ lines ≤ i ∧ scan (N - 1) (s.data.toList.drop i) i at_ lines = scan (N - 1) s.data.toList 0 0 0) (n := s.size + 1)
    ⟨0, 0, 0, rfl, by omega, by omega, by omega, rfl⟩ ?_
  rintro k st X ⟨at_, lines, i, rfl, hk, hi, hli, hsc⟩ hX
  unfold pedagoguelaw15_ModelTells_n1_B
  dsimp only
  have hw : IntKind.i64.wrap ((N : Int) - 1) = ((N - 1 : Nat) : Int) := by rw [wrap_i64 _ (by omega) (by omega)]; omega
  have hw2 : IntKind.i64.wrap ((i : Int) + 1) = ((i + 1 : Nat) : Int) := by rw [wrap_i64 _ (by omega) (by omega)]; omega
  have hw3 : IntKind.i64.wrap ((lines : Int) + 1) = ((lines + 1 : Nat) : Int) := by rw [wrap_i64 _ (by omega) (by omega)]; omega
  rw [hw, hw2, hw3]
  by_cases hlt : i < s.size
  · rw [if_pos (decide_eq_true (by omega))]
    refine ⟨by omega, ?_⟩
    have hd : s.data.toList.drop i = s.data.toList.getD i 0 :: s.data.toList.drop (i + 1) := by
      rw [List.drop_eq_getElem_cons (by omega), List.getD_eq_getElem?_getD, List.getElem?_eq_getElem (by omega)]
      rfl
    rw [hd] at hsc
    simp only [scan] at hsc
    simp only [Int.toNat_natCast]
    by_cases hc : s.data.toList.getD i 0 = 10 ∧ lines < N - 1
    · rw [if_pos hc] at hsc
      rw [if_pos (by rw [hc.1]; simp; omega)]
      refine ⟨?_⟩
      rw [hw2]
      exact hX (k - 1) _ (by omega) ⟨i + 1, lines + 1, i + 1, rfl, by omega, by omega, by omega, hsc⟩
    · rw [if_neg hc] at hsc
      rw [if_neg (by
        intro k
        simp only [Bool.and_eq_true, beq_iff_eq, decide_eq_true_eq] at k
        refine hc ⟨UInt8.toNat_inj.1 ?_, by omega⟩
        have := k.1
        have e : (10 : UInt8).toNat = 10 := rfl
        omega)]
      refine ⟨?_⟩
      rw [hw2]
      exact hX (k - 1) _ (by omega) ⟨at_, lines, i + 1, rfl, by omega, by omega, by omega, hsc⟩
  · have hie : i = s.size := by omega
    rw [if_neg (by simp; omega)]
    rw [List.drop_of_length_le (by omega)] at hsc
    rw [← hsc] at h
    exact h

theorem tells_law {s : ByteArray} {Q : Bool → Prop} (hq : Q true) : pedagoguelaw15_ModelTells s Q := by
  have hl : s.data.toList.length = s.size := rfl
  refine ⟨?_⟩
  by_cases h1 : 2000 < s.size
  · rw [if_pos (decide_eq_true (by omega))]
    refine parse_v ?_
    have e : parseF s.data.toList = (mz, 0, 10) := by unfold parseF; rw [if_pos (by omega)]
    rw [e]
    unfold jn
    dsimp only
    rw [if_pos (by rfl)]
    exact awake_v hq
  rw [if_neg (by simp; omega)]
  refine parse_v ?_
  have e : parseF s.data.toList = goF (s.data.toList.length + 1) s.data.toList 0 (0, 0, 0) [] := by unfold parseF; rw [if_neg (by omega)]
  rw [e]
  cases hg : goF (s.data.toList.length + 1) s.data.toList 0 (0, 0, 0) [] with
  | mk m Ne =>
  obtain ⟨N, er⟩ := Ne
  dsimp only
  by_cases he : er = 0
  · rw [if_pos (by simp [he])]
    unfold jn
    dsimp only
    have hN : N = 0 := by
      have key : ∀ (k : Nat) (l : Bytes) (n : Nat) (i : Int × Int × Int) (ls : List Lay), (goF k l n i ls).2.2 = 0 → (goF k l n i ls).2.1 = 0 := by
        intro k
        induction k with
        | zero => intro l n i ls h; simp [goF] at h
        | succ k ih =>
          intro l n i ls
          unfold goF
          split
          · intro _; rfl
          · split
            · intro h; simp at h
            · split
              · split
                · intro h; simp at h
                · exact ih _ _ _ _
              · split
                · intro h; simp at h
                · split
                  · intro h; simp at h
                  · exact ih _ _ _ _
      have := key (s.data.toList.length + 1) s.data.toList 0 (0, 0, 0) []
      rw [hg] at this
      exact this he
    rw [if_pos (by simp [hN])]
    exact awake_v hq
  · rw [if_neg (by simpa using he)]
    obtain ⟨j, p, q, g1, g2, g3, g4, g5⟩ := go_tells _ _ 0 _ _ m N er (by omega) hg he
    have hjl : ∀ {p : Bytes} {j : Nat}, NL p j → j ≤ p.length := by
      intro p j h
      induction h with
      | nil => exact Nat.le_refl _
      | cons _ _ ih => simp; omega
    have hj := hjl g3
    have hpl : p.length ≤ s.size := by rw [← hl, g2]; simp
    have hN : N = ((j + 1 : Nat) : Int) := by omega
    refine ⟨?_⟩
    rw [hN]
    refine scan_v (by omega) (by omega) (by omega) ?_
    have hsc : scan (j + 1 - 1) s.data.toList 0 0 0 = (p.length, j) := by
      rw [g2, Nat.add_sub_cancel]
      have := scan_nl g3 q j 0 0 (by omega)
      rw [Nat.zero_add] at this
      exact this
    rw [hsc]
    dsimp only
    have hw : IntKind.i64.wrap (((j + 1 : Nat) : Int) - 1) = (j : Int) := by rw [wrap_i64 _ (by omega) (by omega)]; omega
    rw [hw, if_neg (by simp; omega)]
    refine ⟨⟨trivial, by omega, by omega, by omega⟩, ?_⟩
    rw [Int.toNat_natCast, Int.toNat_zero, List.drop_zero]
    have ht : s.data.toList.take p.length = p := by rw [g2, List.take_left]
    rw [ht]
    refine parse_v ?_
    have e2 : parseF (⟨p.toArray⟩ : ByteArray).data.toList = goF (p.length + 1) p 0 (0, 0, 0) [] := by
      unfold parseF
      rw [if_neg (by show ¬ 2000 < p.length; omega)]
    rw [e2]
    have g6 := g5 (p.length + 1) (by omega)
    unfold jn
    dsimp only
    by_cases h2 : 2 ≤ j
    · have := g6.1 (by omega)
      rw [if_pos (by simp [this])]
      exact awake_v hq
    · have := g6.2 (by omega)
      rw [if_pos (by rw [this]; simp [hN]; omega)]
      exact awake_v hq

end Go.Proofs.YthphkjgkgdjmdaaDoor
