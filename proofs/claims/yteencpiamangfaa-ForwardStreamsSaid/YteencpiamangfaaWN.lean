/- What check.Shapes, params.Dims and params.May come to. Laws; no condition. -/
import Derived.Test.YteencpiamangfaaWM
namespace Go.Proofs.Yteencpiamangfaa
open Go.Mach Go.RowKit
set_option maxRecDepth 100000
set_option linter.unusedVariables false
set_option linter.unusedSimpArgs false

abbrev Prm := T3 × List Int × T3
abbrev Prm0 : Prm := (([], 0, []), [], ([], 0, []))

def shapesGo : List Lay → Int → List (List Int) → List (List Int) × Int × Int
  | [], _, l => (l, 0, 0)
  | x :: r, i, l =>
    if givesF x l (l.getD (l.length - 1) []) = [] then ([], i + 1, 2)
    else if 8192 < prodW (givesF x l (l.getD (l.length - 1) [])) then ([], i + 1, 1)
    else shapesGo r (i + 1) (l ++ [givesF x l (l.getD (l.length - 1) [])])
def inL (m : Mdl) : List Int := [m.1.1, m.1.2.1, m.1.2.2]
def shapesF (m : Mdl) : List (List Int) × Int × Int :=
  if mayMF m = true then (if 8192 < prodW (inL m) then ([], 0, 1) else shapesGo m.2 0 [inL m]) else ([], 0, 1)

theorem planesF_len (d : List Int) (c : Int) (x : Lay) : (planesF d c x).length ≤ 3 := by
  unfold planesF
  split
  · split <;> simp
  · simp
theorem givesF_len {x : Lay} {l : List (List Int)} {d : List Int} (hd : d.length ≤ 3) : (givesF x l d).length ≤ 3 := by
  unfold givesF
  split
  · split <;> simp
  split
  · exact planesF_len _ _ _
  split
  · exact planesF_len _ _ _
  split
  · exact hd
  split
  · simp
  split
  · split
    · exact hd
    · simp
  · simp

theorem mayLF_from {x : Lay} {n : Int} (h : mayLF x n = true) (h7 : x.1 = 7) : 0 ≤ x.2.2.2.2.2.1 ∧ x.2.2.2.2.2.1 ≤ IntKind.i64.wrap (n - 1) := by
  unfold mayLF at h
  rw [if_neg (by omega), if_neg (by omega), if_neg (by omega), if_neg (by omega), if_pos h7] at h
  unfold inP at h
  simp only [Bool.and_eq_true, decide_eq_true_eq] at h
  exact h.1

/-- Lists of shapes, as they come to be. -/
structure ShOk (l : List (List Int)) (n : Nat) : Prop where
  len : l.length = n
  ne : ∀ d ∈ l, d ≠ [] ∧ d.length ≤ 3
theorem ShOk.last {l : List (List Int)} {n : Nat} (h : ShOk l n) (hn : 0 < n) : l.getD (l.length - 1) [] ∈ l := by
  have := h.len
  rw [List.getD_eq_getElem?_getD, List.getElem?_eq_getElem (by omega)]
  exact List.getElem_mem _
theorem ShOk.at_ {l : List (List Int)} {n : Nat} (h : ShOk l n) {i : Nat} (hi : i < n) : l.getD i [] ≠ [] ∧ (l.getD i []).length ≤ 3 := by
  have := h.len
  rw [List.getD_eq_getElem?_getD, List.getElem?_eq_getElem (by omega)]
  exact h.ne _ (List.getElem_mem _)
theorem ShOk.push {l : List (List Int)} {n : Nat} (h : ShOk l n) (hn : 0 < n) {x : Lay} (hg : givesF x l (l.getD (l.length - 1) []) ≠ []) : ShOk (l ++ [givesF x l (l.getD (l.length - 1) [])]) (n + 1) where
  len := by simp [h.len]
  ne := fun d hd => by
    rcases List.mem_append.1 hd with hd | hd
    · exact h.ne d hd
    · rw [List.mem_singleton] at hd
      subst hd
      exact ⟨hg, givesF_len (h.ne _ (h.last hn)).2⟩

theorem shapes_v {m : Mdl} {Q : List (List Int) × Int × Int → Prop} (hl : m.2.length ≤ 1000000000000) (h : Q (shapesF m)) : check_Shapes m Q := by
  refine ⟨mayM_v hl ?_⟩
  unfold shapesF at h
  show if (!mayMF m) = true then _ else _
  by_cases hm : mayMF m = true
  rotate_left
  · rw [if_neg hm] at h
    rw [if_pos (by simp [hm])]
    exact h
  rw [if_pos hm] at h
  rw [if_neg (by simp [hm])]
  obtain ⟨hin, hlen, hlay⟩ := mayMF_inv hm
  refine ⟨by simp, product_v (by simp) ?_⟩
  show if decide (8192 < prodW (inL m)) = true then _ else _
  by_cases hp : 8192 < prodW (inL m)
  · rw [if_pos hp] at h
    rw [if_pos (decide_eq_true hp)]
    exact h
  rw [if_neg hp] at h
  rw [if_neg (by simpa using hp)]
  refine ⟨?_⟩
  obtain ⟨z, hz⟩ : ∃ z, shapesGo m.2 0 [inL m] = z := ⟨_, rfl⟩
  rw [hz] at h
  refine Loop.rangeI (B := check_Shapes_n0_B m.2 (m.2.length : Int) _ _) m.2.length (fun i s => s.1 = (i : Int) ∧ ShOk s.2 (i + 1) ∧ shapesGo (m.2.drop i) i s.2 = z) ⟨rfl, ⟨rfl, fun d hd => ?_⟩, hz⟩ ?_ ?_
  · rw [List.mem_singleton] at hd
    subst hd
    exact ⟨by simp, by simp⟩
  · rintro i hi ⟨s1, l⟩ ⟨rfl, hsh, hgo⟩ X hX
    dsimp only at hsh hgo
    unfold check_Shapes_n0_B
    dsimp only
    rw [if_pos (decide_eq_true (show (i : Int) < (m.2.length : Int) by omega))]
    refine ⟨by omega, ?_⟩
    simp only [Int.toNat_natCast]
    have hdrop : m.2.drop i = m.2.getD i Lay0 :: m.2.drop (i + 1) := by
      rw [List.drop_eq_getElem_cons hi, List.getD_eq_getElem?_getD, List.getElem?_eq_getElem hi]; rfl
    rw [hdrop] at hgo
    have hne : l ≠ [] := by intro e; have := hsh.len; rw [e] at this; simp at this
    have hL := hsh.last (by omega)
    refine gives_v hne (by rw [hsh.len]; omega) (hsh.ne _ hL).1 (fun d hd => by have := (hsh.ne d hd).2; omega) (fun h7 => ?_) ?_
    · have := mayLF_from (hlay i hi) h7
      rw [hsh.len]
      rw [wrap_i64 _ (by omega) (by omega)] at this
      show 0 ≤ (m.2.getD i Lay0).2.2.2.2.2.1 ∧ (m.2.getD i Lay0).2.2.2.2.2.1 < _
      omega
    unfold shapesGo at hgo
    show nz (givesF (m.2.getD i Lay0) l (l.getD (l.length - 1) [])) _ _
    generalize hg : givesF (m.2.getD i Lay0) l (l.getD (l.length - 1) []) = g at hgo ⊢
    refine ⟨fun e => ?_, fun e => ⟨fun e2 => absurd e2 e, ?_⟩⟩
    · rw [if_pos e] at hgo
      subst hgo
      rw [wrap_i64 _ (by omega) (by omega)]
      exact h
    · rw [if_neg e] at hgo
      have hg3 : g.length ≤ 3 := by rw [← hg]; exact givesF_len (hsh.ne _ hL).2
      refine product_v (by omega) ?_
      by_cases hq : 8192 < prodW g
      · rw [if_pos hq] at hgo
        subst hgo
        rw [if_pos (decide_eq_true hq), wrap_i64 _ (by omega) (by omega)]
        exact h
      · rw [if_neg hq] at hgo
        rw [if_neg (by simpa using hq)]
        refine ⟨by rw [hsh.len]; simp; omega, ?_⟩
        refine hX _ ⟨by dsimp only; rw [wrap_i64 _ (by omega) (by omega)]; omega, ?_, by dsimp only; exact_mod_cast hgo⟩
        dsimp only
        have := hsh.push (by omega) (x := m.2.getD i Lay0) (by rw [hg]; exact e)
        rwa [hg] at this
  · rintro ⟨s1, l⟩ ⟨rfl, hsh, hgo⟩ X
    unfold check_Shapes_n0_B
    dsimp only at hgo ⊢
    rw [if_neg (by simp)]
    rw [List.drop_length] at hgo
    unfold shapesGo at hgo
    subst hgo
    exact h

/-- What comes of it. -/
theorem shapesGo_ok : ∀ (r : List Lay) (i : Int) (l : List (List Int)) (n : Nat), ShOk l n → 0 < n → (shapesGo r i l).2.2 = 0 → ShOk (shapesGo r i l).1 (n + r.length)
  | [], i, l, n, h, _, _ => h
  | x :: r, i, l, n, h, hn, h0 => by
    unfold shapesGo at h0 ⊢
    split at h0
    · cases h0
    · rename_i hg
      rw [if_neg hg]
      split at h0
      · cases h0
      · rename_i hp
        rw [if_neg hp]
        have := shapesGo_ok r (i + 1) _ (n + 1) (h.push hn hg) (by omega) h0
        rw [List.length_cons, show n + (r.length + 1) = n + 1 + r.length by omega]
        exact this
theorem shapesF_ok {m : Mdl} (h : (shapesF m).2.2 = 0) : mayMF m = true ∧ ShOk (shapesF m).1 (m.2.length + 1) := by
  unfold shapesF at h ⊢
  split at h
  · rename_i hm
    rw [if_pos hm]
    split at h
    · cases h
    · rename_i hp
      rw [if_neg hp]
      have := shapesGo_ok m.2 0 [inL m] 1 ⟨rfl, fun d hd => by rw [List.mem_singleton] at hd; subst hd; exact ⟨by simp [inL], by simp [inL]⟩⟩ (by omega) h
      rw [Nat.add_comm]
      exact ⟨hm, this⟩
  · cases h

/-! ### Weights -/
def ofF (x : Lay) (d : List Int) : List Int × Int :=
  if x.1 = 1 then ([x.2.1, d.getD 0 0], x.2.1) else if x.1 = 2 then ([x.2.1, d.getD 0 0, x.2.2.1, x.2.2.1], x.2.1) else ([], 0)
def dimsF (m : Mdl) (i : Int) : List Int × Int :=
  if (((shapesF m).2.2 != 0) || decide (i < 1) || decide ((m.2.length : Int) < i)) = true then ([], 0)
  else if 0 < szF (ofF (m.2.getD (i - 1).toNat Lay0) ((shapesF m).1.getD (i - 1).toNat [])).1 then ofF (m.2.getD (i - 1).toNat Lay0) ((shapesF m).1.getD (i - 1).toNat []) else ([], 0)
theorem szF_nil : szF [] = 0 := rfl
theorem dims_v {m : Mdl} {i : Int} {Q : List Int × Int → Prop} (hl : m.2.length ≤ 1000000000000) (hd : (dimsF m i).1 = [] → Q (dimsF m i)) (h : (dimsF m i).1 ≠ [] → Q (dimsF m i)) : params_Dims m i Q := by
  have h : Q (dimsF m i) := by
    by_cases e : (dimsF m i).1 = []
    · exact hd e
    · exact h e
  clear hd
  refine ⟨shapes_v hl ?_⟩
  unfold dimsF at h
  by_cases h1 : (((shapesF m).2.2 != 0) || decide (i < 1) || decide ((m.2.length : Int) < i)) = true
  · rw [if_pos h1] at h
    rw [if_pos h1]
    exact h
  rw [if_neg h1] at h
  rw [if_neg h1]
  simp only [Bool.or_eq_true, bne_iff_ne, decide_eq_true_eq, not_or, ne_eq, Decidable.not_not] at h1
  obtain ⟨hm, hok⟩ := shapesF_ok h1.1.1
  have hw : IntKind.i64.wrap (i - 1) = i - 1 := wrap_i64 _ (by omega) (by omega)
  rw [hw]
  have hol := hok.len
  have hat := hok.at_ (i := (i - 1).toNat) (by omega)
  refine ⟨by omega, by show _ ∧ _ < ((shapesF m).1.length : Int); omega, ?_⟩
  show params_of (m.2.getD (i - 1).toNat Lay0) ((shapesF m).1.getD (i - 1).toNat []) _
  generalize m.2.getD (i - 1).toNat Lay0 = x at h ⊢
  generalize (shapesF m).1.getD (i - 1).toNat [] = d at h hat ⊢
  have hd0 : 0 < (d.length : Int) := by have := List.length_pos_iff.2 hat.1; omega
  have fin : ∀ r : List Int × Int, r.1 ≠ [] → r.1.length ≤ 4 → Q (if 0 < szF r.1 then r else ([], 0)) → nz r.1 (shape_May [] fun r3 => if (!r3) = true then Q ([], 0) else Q ([], r.2)) (shape_May r.1 fun r3 => if (!r3) = true then Q ([], 0) else ck (r.1 ≠ []) (Q (r.1, r.2))) := by
    intro r hr hr4 hq
    refine ⟨fun e => absurd e hr, fun e => may_v ?_⟩
    by_cases hs : 0 < szF r.1
    · rw [if_pos hs] at hq
      rw [decide_eq_true hs, if_neg (by simp)]
      exact ⟨hr, hq⟩
    · rw [if_neg hs] at hq
      rw [decide_eq_false hs, if_pos (by rfl)]
      exact hq
  refine ⟨?_⟩
  unfold params_of_t
  unfold ofF at h
  by_cases k1 : x.1 = 1
  · simp only [if_pos k1] at h
    rw [if_pos (by simpa using k1)]
    exact ⟨by omega, by simp, fin ([x.2.1, d.getD 0 0], x.2.1) (by simp) (by simp) h⟩
  simp only [if_neg k1] at h
  rw [if_neg (by simpa using k1)]
  by_cases k2 : x.1 = 2
  · simp only [if_pos k2] at h
    rw [if_pos (by simpa using k2)]
    exact ⟨by omega, by simp, fin ([x.2.1, d.getD 0 0, x.2.2.1, x.2.2.1], x.2.1) (by simp) (by simp) h⟩
  · simp only [if_neg k2] at h
    rw [if_neg (by simpa using k2)]
    refine ⟨fun _ => may_v ?_, fun e => absurd rfl e⟩
    rw [szF_nil, if_pos (by rfl)]
    rw [szF_nil, if_neg (by omega)] at h
    exact h

end Go.Proofs.Yteencpiamangfaa
