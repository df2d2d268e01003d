/- What is written is read as it was; a text that is parsed is what its net writes (ModelBack). No condition. -/
import Derived.Test.YthphkjgkgdjmdaaDoorKX
import Derived.Test.YthphkjgkgdjmdaaDoorMB
namespace Go.Proofs.YthphkjgkgdjmdaaDoor
open Go.Mach
set_option maxRecDepth 100000
set_option linter.unusedVariables false
set_option linter.unusedSimpArgs false

theorem spl_app (c : UInt8) : ∀ (a r : Bytes), c ∉ a → spl c (a ++ c :: r) = a :: spl c r
  | [], r, _ => by simp [spl]
  | x :: a, r, h => by
    have hx : x ≠ c := fun e => h (by rw [e]; simp)
    simp only [List.cons_append, spl]
    rw [if_neg hx, spl_app c a r (fun k => h (List.mem_cons_of_mem _ k))]
theorem spl_inv (c : UInt8) : ∀ (l : Bytes) (h : Bytes) (t : List Bytes), spl c l = h :: t → l = h ++ t.flatMap (c :: ·) ∧ c ∉ h
  | [], h, t, e => by
    simp only [spl, List.cons.injEq] at e
    obtain ⟨rfl, rfl⟩ := e
    exact ⟨rfl, by simp⟩
  | x :: r, h, t, e => by
    unfold spl at e
    split at e
    · rename_i hx
      simp only [List.cons.injEq] at e
      obtain ⟨rfl, rfl⟩ := e
      cases hs : spl c r with
      | nil => exact absurd hs (spl_ne c r)
      | cons h' t' =>
        obtain ⟨e1, e2⟩ := spl_inv c r h' t' hs
        refine ⟨?_, by simp⟩
        rw [hx]
        simp only [List.nil_append, List.flatMap_cons, List.cons_append]
        rw [← e1]
    · rename_i hx
      split at e
      · rename_i hs; exact absurd hs (spl_ne c r)
      · rename_i h' t' hs
        simp only [List.cons.injEq] at e
        obtain ⟨rfl, rfl⟩ := e
        obtain ⟨e1, e2⟩ := spl_inv c r h' _ hs
        refine ⟨by rw [List.cons_append, ← e1], fun k => ?_⟩
        rcases List.mem_cons.1 k with k | k
        · exact hx k.symm
        · exact e2 k

theorem nd_le : ∀ (k u : Nat), u < 10 ^ (k + 1) → Lib.nDigits u ≤ k + 1
  | 0, u, h => by rw [Lib.nDigits_small (by simpa using h)]; omega
  | k + 1, u, h => by
    by_cases h10 : u < 10
    · rw [Lib.nDigits_small h10]; omega
    · rw [Lib.nDigits_big h10]
      have := nd_le k (u / 10) (by rw [Nat.pow_succ] at h; omega)
      omega
theorem itoa_sm {n : Int} (h : Sm n) : Lib.itoa n = Lib.decDigits n.toNat := by
  unfold Lib.itoa
  rw [if_neg (by have := h.1; omega)]
theorem digF_itoa {n : Int} (h : Sm n) : digF (Lib.itoa n) = some n := by
  obtain ⟨u, rfl⟩ := Int.eq_ofNat_of_zero_le h.1
  have hu : u ≤ 9999 := by have := h.2; omega
  rw [itoa_sm h, Int.toNat_natCast]
  have hl := Lib.decDigits_length u
  have h1 := Lib.nDigits_pos u
  have h2 := nd_le 3 u (by omega)
  unfold digF
  rw [if_pos, valD_dec]
  refine ⟨fun k => by rw [k] at hl; simp at hl; omega, by omega, List.all_eq_true.2 fun c hc => decide_eq_true (dec_num u c hc), fun hh => ?_⟩
  have := dec_head u 48 hh rfl
  subst this
  rw [Lib.decDigits, dif_pos (by omega)]
  rfl
theorem digF_inv {w : Bytes} {n : Int} (h : digF w = some n) : w = Lib.itoa n ∧ Sm n := by
  unfold digF at h
  split at h
  · rename_i hc
    obtain ⟨h1, h2, h3, h4⟩ := hc
    cases h
    have hv := val_lt w (dig_all h3)
    have hp : 10 ^ w.length ≤ 10 ^ 4 := Nat.pow_le_pow_right (by omega) h2
    have hs : Sm (valD w : Int) := ⟨by omega, by omega⟩
    refine ⟨?_, hs⟩
    rw [itoa_sm hs, Int.toNat_natCast, dec_digs h1 h3 h4]
  · cases h
theorem no_itoa {n : Int} (h : Sm n) {c : UInt8} (hc : c.toNat < 48) : c ∉ Lib.itoa n := by
  intro k
  rw [itoa_sm h] at k
  have := dec_num _ c k
  omega
theorem numsF_map : ∀ {ns : List Int}, (∀ n ∈ ns, Sm n) → numsF (ns.map Lib.itoa) = some ns
  | [], _ => rfl
  | n :: ns, h => by
    simp only [List.map_cons, numsF]
    rw [digF_itoa (h n (by simp)), numsF_map (fun x hx => h x (by simp [hx]))]
theorem numsF_inv : ∀ {r : List Bytes} {ns : List Int}, numsF r = some ns → r = ns.map Lib.itoa ∧ ∀ n ∈ ns, Sm n
  | [], ns, h => by cases h; exact ⟨rfl, by simp⟩
  | w :: r, ns, h => by
    simp only [numsF] at h
    split at h
    · rename_i n l h1 h2
      cases h
      obtain ⟨e1, e2⟩ := numsF_inv h2
      obtain ⟨g1, g2⟩ := digF_inv h1
      refine ⟨by rw [List.map_cons, ← e1, ← g1], fun x hx => ?_⟩
      rcases List.mem_cons.1 hx with hx | hx
      · rw [hx]; exact g2
      · exact e2 x hx
    · cases h
theorem spl_T : ∀ (ns : List Int) (w : Bytes), (32 : UInt8) ∉ w → (∀ n ∈ ns, Sm n) → spl 32 (w ++ numsT ns) = w :: ns.map Lib.itoa
  | [], w, hw, _ => by simp [numsT, spl_none 32 w hw]
  | n :: ns, w, hw, h => by
    have e : w ++ numsT (n :: ns) = w ++ 32 :: (Lib.itoa n ++ numsT ns) := by simp [numsT]
    rw [e, spl_app 32 w _ hw, spl_T ns (Lib.itoa n) (no_itoa (h n (by simp)) (by decide)) (fun x hx => h x (by simp [hx]))]
    rfl
theorem cut_T {w : Bytes} {ns : List Int} (hw : (32 : UInt8) ∉ w) (h : ∀ n ∈ ns, Sm n) : cutF (w ++ numsT ns) = some (w, ns) := by
  unfold cutF
  rw [spl_T ns w hw h]
  simp only [numsF_map h]
theorem cut_inv {l w : Bytes} {ns : List Int} (h : cutF l = some (w, ns)) : l = w ++ numsT ns ∧ (∀ n ∈ ns, Sm n) := by
  unfold cutF at h
  split at h
  · rename_i w' r hs
    split at h
    · rename_i ns' hn
      cases h
      obtain ⟨e1, e2⟩ := spl_inv 32 l w r hs
      obtain ⟨g1, g2⟩ := numsF_inv hn
      refine ⟨?_, g2⟩
      rw [e1, g1]
      unfold numsT
      rw [List.flatMap_map]
    · cases h
  · cases h

/-! ### Frozen, or not -/
theorem suf_fz (b : Bytes) : sufF (b ++ wFz) = (b, true) := by
  have hl : (b ++ wFz).length = b.length + 7 := by rw [List.length_append]; rfl
  unfold sufF
  rw [hl, Nat.add_sub_cancel]
  rw [if_pos ⟨by omega, List.drop_left⟩, List.take_left]
theorem suf_no {b : Bytes} (h : ∀ a, b ≠ a ++ wFz) : sufF b = (b, false) := by
  unfold sufF
  rw [if_neg]
  rintro ⟨_, h2⟩
  exact h (b.take (b.length - 7)) (by rw [← h2, List.take_append_drop])
theorem suf_inv (l : Bytes) : l = (sufF l).1 ++ (if (sufF l).2 = true then wFz else []) := by
  unfold sufF
  split
  · rename_i h
    rw [if_pos rfl, ← h.2]
    exact (List.take_append_drop _ _).symm
  · simp
theorem last_fz (a : Bytes) : (a ++ wFz).getLast? = some 110 := by
  rw [List.getLast?_append]
  rfl
theorem nsuf_T {w : Bytes} {ns : List Int} (hne : ns ≠ []) (h : ∀ n ∈ ns, Sm n) : ∀ a, w ++ numsT ns ≠ a ++ wFz := by
  intro a e
  have h1 := last_fz a
  rw [← e] at h1
  rcases List.eq_nil_or_concat ns with k | ⟨l, n, k⟩
  · exact hne k
  · rw [k, List.concat_eq_append] at h1
    have hn : Sm n := h n (by rw [k]; simp)
    have e2 : w ++ numsT (l ++ [n]) = (w ++ numsT l ++ [32]) ++ Lib.itoa n := by simp [numsT]
    rw [e2, List.getLast?_append, itoa_sm hn] at h1
    have hd : Lib.decDigits n.toNat ≠ [] := fun k => by
      have := Lib.decDigits_length n.toNat
      have h2 := Lib.nDigits_pos n.toNat
      rw [k] at this; simp at this; omega
    rw [List.getLast?_eq_some_getLast hd] at h1
    simp only [Option.some_or, Option.some.injEq] at h1
    have := dec_num _ _ (List.getLast_mem hd)
    rw [h1] at this
    exact absurd this (by decide)
theorem suf_T {b : Bytes} {fz : Bool} (h : ∀ a, b ≠ a ++ wFz) : sufF (b ++ (if fz = true then wFz else [])) = (b, fz) := by
  cases fz with
  | true => rw [if_pos rfl]; exact suf_fz b
  | false => rw [if_neg (by simp), List.append_nil]; exact suf_no h
theorem nsuf_short {b : Bytes} (h : b.length < 7) : ∀ a, b ≠ a ++ wFz := by
  intro a e
  have := congrArg List.length e
  rw [List.length_append] at this
  have l8 : wFz.length = 7 := rfl
  omega

/-! ### Lines -/
theorem layer_T {x : Lay} {n : Nat} (hn : n ≤ 1000) (h : mayLF x n = true) : layerF (bodyT x) = some x := by
  obtain ⟨hk, h1, h2, h3, h4, h5⟩ := may_sm hn h
  have hw : (32 : UInt8) ∉ wDense ∧ (32 : UInt8) ∉ wConv ∧ (32 : UInt8) ∉ wMax ∧ (32 : UInt8) ∉ wAvg ∧ (32 : UInt8) ∉ wRelu ∧ (32 : UInt8) ∉ wFlat ∧ (32 : UInt8) ∉ wAdd := by decide
  obtain ⟨w1, w2, w3, w4, w5, w6, w7⟩ := hw
  obtain ⟨kd, ou, k, st, pd, fr, fz⟩ := x
  dsimp only at hk h1 h2 h3 h4 h5
  unfold mayLF at h
  dsimp only at h
  have one : ∀ {w : Bytes} {ns : List Int} {y : Lay}, (32 : UInt8) ∉ w → ns ≠ [] → (∀ m ∈ ns, Sm m) → layerP w ns fz = some y → layerF ((w ++ numsT ns) ++ (if fz = true then wFz else [])) = some y := by
    intro w ns y a b c d
    unfold layerF
    rw [suf_T (nsuf_T b c)]
    simp only [cut_T a c, d]
  have zero : ∀ {w : Bytes} {y : Lay}, (32 : UInt8) ∉ w → w.length < 7 → layerP w [] fz = some y → layerF (w ++ (if fz = true then wFz else [])) = some y := by
    intro w y a b d
    unfold layerF
    rw [suf_T (nsuf_short b)]
    have := cut_T (w := w) (ns := []) a (by simp)
    have e : w ++ numsT [] = w := by simp [numsT]
    rw [e] at this
    simp only [this, d]
  unfold bodyT
  dsimp only
  by_cases k1 : kd = 1
  · rw [if_pos k1] at h ⊢
    simp only [Bool.and_eq_true, beq_iff_eq] at h
    obtain ⟨_, e2, e3, e4, e5⟩ := h
    subst k1 e2 e3 e4 e5
    exact one w1 (by simp) (by simpa using h1) (by simp [layerP])
  rw [if_neg k1] at h ⊢
  by_cases k2 : kd = 2
  · rw [if_pos k2] at h ⊢
    simp only [Bool.and_eq_true, beq_iff_eq] at h
    obtain ⟨_, e5⟩ := h
    subst k2 e5
    exact one w2 (by simp) (by simp; exact ⟨h1, h2, h3, h4⟩) (by simp [layerP, show wConv ≠ wDense by decide])
  rw [if_neg k2] at h ⊢
  by_cases k3 : kd = 3
  · rw [if_pos (.inl k3)] at h
    rw [if_pos k3]
    simp only [Bool.and_eq_true, beq_iff_eq] at h
    obtain ⟨_, e2, e3, e4, e5⟩ := h
    subst k3 e2 e3 e4 e5
    exact one w3 (by simp) (by simp; exact ⟨h2, h3⟩) (by simp [layerP, show wMax ≠ wDense by decide, show wMax ≠ wConv by decide])
  rw [if_neg k3]
  by_cases k4 : kd = 4
  · rw [if_pos (.inr k4)] at h
    rw [if_pos k4]
    simp only [Bool.and_eq_true, beq_iff_eq] at h
    obtain ⟨_, e2, e3, e4, e5⟩ := h
    subst k4 e2 e3 e4 e5
    exact one w4 (by simp) (by simp; exact ⟨h2, h3⟩) (by simp [layerP, show wAvg ≠ wDense by decide, show wAvg ≠ wConv by decide, show wAvg ≠ wMax by decide])
  rw [if_neg (by omega)] at h
  rw [if_neg k4]
  by_cases k5 : kd = 5
  · rw [if_pos (.inl k5)] at h
    rw [if_pos k5]
    simp only [Bool.and_eq_true, beq_iff_eq] at h
    obtain ⟨e1, e2, e3, e4, e5, e6⟩ := h
    subst k5 e1 e2 e3 e4 e5 e6
    exact zero w5 (by decide) (by simp [layerP, show wRelu ≠ wDense by decide, show wRelu ≠ wConv by decide, show wRelu ≠ wMax by decide, show wRelu ≠ wAvg by decide])
  rw [if_neg k5]
  by_cases k6 : kd = 6
  · rw [if_pos (.inr k6)] at h
    rw [if_pos k6]
    simp only [Bool.and_eq_true, beq_iff_eq] at h
    obtain ⟨e1, e2, e3, e4, e5, e6⟩ := h
    subst k6 e1 e2 e3 e4 e5 e6
    exact zero w6 (by decide) (by simp [layerP, show wFlat ≠ wDense by decide, show wFlat ≠ wConv by decide, show wFlat ≠ wMax by decide, show wFlat ≠ wAvg by decide, show wFlat ≠ wRelu by decide])
  rw [if_neg (by omega)] at h
  rw [if_neg k6]
  by_cases k7 : kd = 7
  · rw [if_pos k7] at h ⊢
    simp only [Bool.and_eq_true, beq_iff_eq] at h
    obtain ⟨_, e1, e2, e3, e4, e6⟩ := h
    subst k7 e1 e2 e3 e4 e6
    exact one w7 (by simp) (by simpa using h5) (by simp [layerP, show wAdd ≠ wDense by decide, show wAdd ≠ wConv by decide, show wAdd ≠ wMax by decide, show wAdd ≠ wAvg by decide, show wAdd ≠ wRelu by decide, show wAdd ≠ wFlat by decide])
  · rw [if_neg k7] at h; cases h
theorem layerP_inv {w : Bytes} {ns : List Int} {fz : Bool} {x : Lay} (h : layerP w ns fz = some x) : bodyT x = (w ++ numsT ns) ++ (if fz = true then wFz else []) := by
  unfold layerP at h
  split at h
  · cases h
  split at h
  · rename_i hw; split at h
    · cases h; rw [hw]; simp [bodyT]
    · cases h
  split at h
  · rename_i hw; split at h
    · cases h; rw [hw]; simp [bodyT]
    · cases h
  split at h
  · rename_i hw; split at h
    · cases h; rw [hw]; simp [bodyT]
    · cases h
  split at h
  · rename_i hw; split at h
    · cases h; rw [hw]; simp [bodyT]
    · cases h
  split at h
  · rename_i hw; split at h
    · cases h; rw [hw]; simp [bodyT, numsT]
    · cases h
  split at h
  · rename_i hw; split at h
    · cases h; rw [hw]; simp [bodyT, numsT]
    · cases h
  split at h
  · rename_i hw; split at h
    · cases h; rw [hw]; simp [bodyT]
    · cases h
  · cases h
theorem line_inv {a : Bytes} {k : Nat} {x : Lay} (h : lineF a k = some x) : a = bodyT x ∧ mayLF x k = true := by
  unfold lineF at h
  split at h
  · rename_i y hy
    split at h
    · rename_i hm
      cases h
      refine ⟨?_, hm⟩
      unfold layerF at hy
      split at hy
      · rename_i w ns hc
        rw [layerP_inv hy, ← (cut_inv hc).1]
        exact suf_inv a
      · cases hy
    · cases h
  · cases h
theorem first_inv {a : Bytes} {i : Int × Int × Int} (h : firstF a = some i) : a = wIn ++ numsT [i.1, i.2.1, i.2.2] ∧ entersB i = true := by
  unfold firstF at h
  split at h
  · rename_i w x y z hc
    split at h
    · rename_i hw
      cases h
      refine ⟨?_, hw.2⟩
      rw [← hw.1]
      exact (cut_inv hc).1
    · cases h
  · cases h
theorem first_T {i : Int × Int × Int} (h : entersB i = true) : firstF (wIn ++ numsT [i.1, i.2.1, i.2.2]) = some i := by
  obtain ⟨s1, s2, s3⟩ := ent_sm h
  unfold firstF
  rw [cut_T (by decide) (by simp; exact ⟨s1, s2, s3⟩)]
  dsimp only
  rw [if_pos ⟨rfl, h⟩]
theorem no10_T {w : Bytes} {ns : List Int} (hw : (10 : UInt8) ∉ w) (h : ∀ n ∈ ns, Sm n) : (10 : UInt8) ∉ w ++ numsT ns := by
  intro k
  rcases List.mem_append.1 k with k | k
  · exact hw k
  · obtain ⟨n, hn, hk⟩ := List.mem_flatMap.1 k
    rcases List.mem_cons.1 hk with hk | hk
    · exact absurd hk (by decide)
    · exact no_itoa (h n hn) (by decide) hk
theorem no10_body {x : Lay} (hx : LaySm x) : (10 : UInt8) ∉ bodyT x := by
  obtain ⟨hk, h1, h2, h3, h4, h5⟩ := hx
  have hf : (10 : UInt8) ∉ (if x.2.2.2.2.2.2 = true then wFz else []) := by
    split
    · decide
    · simp
  unfold bodyT
  intro k
  rcases List.mem_append.1 k with k | k
  · revert k
    split
    · exact no10_T (by decide) (by simpa using h1)
    split
    · exact no10_T (by decide) (by simp; exact ⟨h1, h2, h3, h4⟩)
    split
    · exact no10_T (by decide) (by simp; exact ⟨h2, h3⟩)
    split
    · exact no10_T (by decide) (by simp; exact ⟨h2, h3⟩)
    split
    · decide
    split
    · decide
    split
    · exact no10_T (by decide) (by simpa using h5)
    · simp
  · exact hf k

/-! ### Texts -/
theorem go_T : ∀ (xs : List Lay) (k n : Nat) (i : Int × Int × Int) (ls : List Lay), (∀ j, j < xs.length → mayLF (xs.getD j Lay0) ((ls.length + j : Nat) : Int) = true) → ls.length + xs.length ≤ 12 → 1 ≤ n → 2 ≤ n + xs.length → (xs.flatMap lineT).length < k →
    goF k (xs.flatMap lineT) n i ls = ((i, ls ++ xs), 0, 0)
  | [], k, n, i, ls, hm, hl, hn, h2, hk => by
    cases k with
    | zero => omega
    | succ k =>
      unfold goF
      rw [if_pos ⟨rfl, by simpa using h2⟩, List.append_nil]
  | x :: xs, k, n, i, ls, hm, hl, hn, h2, hk => by
    cases k with
    | zero => omega
    | succ k =>
      have hx : mayLF x (ls.length : Int) = true := hm 0 (by simp)
      simp only [List.length_cons] at hl
      have hsm := may_sm (by omega) hx
      have e : (x :: xs).flatMap lineT = bodyT x ++ 10 :: xs.flatMap lineT := by simp [lineT]
      rw [e] at hk ⊢
      unfold goF
      rw [if_neg (fun h => by have := h.1; simp at this), brk_app _ (no10_body hsm)]
      dsimp only
      rw [if_neg (by omega)]
      have hline : lineF (bodyT x) ls.length = some x := by
        unfold lineF
        rw [layer_T (by omega) hx]
        simp only [hx, if_true]
      rw [hline]
      dsimp only
      rw [if_neg (by omega)]
      simp only [List.length_append, List.length_cons] at hk
      rw [go_T xs k (n + 1) i (ls ++ [x]) (fun j hj => by
        have := hm (j + 1) (by simp; omega)
        simp only [List.getD_cons_succ] at this
        rw [show (ls ++ [x]).length + j = ls.length + (j + 1) by simp; omega]
        exact this) (by simp; omega) (by omega) (by omega) (by omega)]
      simp
theorem go_inv : ∀ (k : Nat) (l : Bytes) (n : Nat) (i : Int × Int × Int) (ls : List Lay) (p : Mdl) (N : Int), 1 ≤ n → ls.length ≤ 12 → goF k l n i ls = (p, N, 0) →
    ∃ xs : List Lay, p = (i, ls ++ xs) ∧ N = 0 ∧ l = xs.flatMap lineT ∧ ls.length + xs.length ≤ 12 ∧ 2 ≤ n + xs.length ∧ ∀ j, j < xs.length → mayLF (xs.getD j Lay0) ((ls.length + j : Nat) : Int) = true
  | 0, l, n, i, ls, p, N, hn, hl, h => by simp [goF] at h
  | k + 1, l, n, i, ls, p, N, hn, hl, h => by
    unfold goF at h
    split at h
    · rename_i he
      cases h
      exact ⟨[], by simp, rfl, by rw [he.1]; rfl, by simpa using hl, by simpa using he.2, fun j hj => by simp at hj⟩
    · split at h
      · simp at h
      · rename_i a r hb
        obtain ⟨e1, e2⟩ := brk_some hb
        split at h
        · omega
        · split at h
          · simp at h
          · rename_i x hx
            obtain ⟨g1, g2⟩ := line_inv hx
            split at h
            · simp at h
            · rename_i h12
              obtain ⟨xs, p1, p2, p3, p4, p5, p6⟩ := go_inv k r (n + 1) i (ls ++ [x]) p N (by omega) (by simp; omega) h
              refine ⟨x :: xs, by rw [p1]; simp, p2, ?_, by simp at p4 ⊢; omega, by simp; omega, fun j hj => ?_⟩
              · rw [e1, g1, p3]
                simp [lineT]
              · cases j with
                | zero => exact g2
                | succ j =>
                  have := p6 j (by simpa using hj)
                  rw [show (ls ++ [x]).length + j = ls.length + (j + 1) by simp; omega] at this
                  simpa using this

theorem full_len {m : Mdl} (h : mayMF m = true) : (fullT m).length ≤ 1500 := by
  obtain ⟨he, hlen, _, hsm⟩ := lay_all h
  obtain ⟨s1, s2, s3⟩ := ent_sm he
  have hn := numsT_sm (l := [m.1.1, m.1.2.1, m.1.2.2]) (by simp; exact ⟨s1, s2, s3⟩)
  simp only [List.length_cons, List.length_nil] at hn
  have hf := flat_len hsm
  have l1 : wIn.length = 2 := rfl
  unfold fullT headT
  rw [List.length_append, List.length_append, List.length_append]
  simp only [List.length_cons, List.length_nil]
  omega
theorem parse_T {m : Mdl} (h : mayMF m = true) : parseF (fullT m) = (m, 0, 0) := by
  have hl := full_len h
  obtain ⟨he, hlen, hmay, hsm⟩ := lay_all h
  obtain ⟨s1, s2, s3⟩ := ent_sm he
  have e : fullT m = (wIn ++ numsT [m.1.1, m.1.2.1, m.1.2.2]) ++ 10 :: m.2.flatMap lineT := by simp [fullT, headT]
  unfold parseF
  rw [if_neg (by omega)]
  rw [e] at hl ⊢
  unfold goF
  rw [if_neg (fun k => by have := k.1; simp at this), brk_app _ (no10_T (by decide) (by simp; exact ⟨s1, s2, s3⟩))]
  dsimp only
  rw [if_pos rfl, first_T he]
  dsimp only
  rw [go_T m.2 _ 1 m.1 [] (fun j hj => by simpa using hmay j hj) (by simp; omega) (by omega) (by omega) (by simp; omega)]
  simp
theorem parse_inv {l : Bytes} {p : Mdl} {N : Int} (h : parseF l = (p, N, 0)) : mayMF p = true ∧ N = 0 ∧ l = fullT p := by
  unfold parseF at h
  split at h
  · simp at h
  · unfold goF at h
    rw [if_neg (fun k => by have := k.2; omega)] at h
    split at h
    · simp at h
    · rename_i a r hb
      obtain ⟨e1, _⟩ := brk_some hb
      rw [if_pos rfl] at h
      split at h
      · simp at h
      · rename_i i hf
        obtain ⟨g1, g2⟩ := first_inv hf
        obtain ⟨xs, p1, p2, p3, p4, p5, p6⟩ := go_inv _ r 1 i [] p N (by omega) (by simp) h
        rw [List.nil_append] at p1
        simp only [List.length_nil, Nat.zero_add] at p4 p6
        refine ⟨?_, p2, ?_⟩
        · rw [p1]
          unfold mayMF mayLs
          rw [g2, inP_of (by simp; omega) (by simp; omega)]
          simp only [Bool.true_and, List.all_eq_true, List.mem_range]
          exact p6
        · rw [p1, e1, g1, p3]
          simp [fullT, headT]
theorem go_err : ∀ (k : Nat) (l : Bytes) (n : Nat) (i : Int × Int × Int) (ls : List Lay), (goF k l n i ls).2.2 ≠ 0 → (goF k l n i ls).1 = mz := by
  intro k
  induction k with
  | zero => intro l n i ls _; rfl
  | succ k ih =>
    intro l n i ls
    unfold goF
    split
    · intro h; exact absurd rfl h
    · split
      · intro _; rfl
      · split
        · split
          · intro _; rfl
          · exact ih _ _ _ _
        · split
          · intro _; rfl
          · split
            · intro _; rfl
            · exact ih _ _ _ _
theorem parse_err {l : Bytes} (h : (parseF l).2.2 ≠ 0) : (parseF l).1 = mz := by
  unfold parseF at h ⊢
  split
  · rfl
  · rename_i k
    rw [if_neg k] at h
    exact go_err _ _ _ _ _ h

theorem back_law {m : Mdl} {s : ByteArray} {Q : Bool → Prop} (hq : Q true) : pedagoguelaw15_ModelBack m s Q := by
  refine ⟨?_⟩
  by_cases hb : ((decide (40 < (m.2.length : Int))) || (decide (5000 < (s.size : Int)))) = true
  · rw [if_pos hb]; exact awake_v hq
  rw [if_neg hb]
  have hl : m.2.length ≤ 40 := by
    simp at hb
    omega
  have rest : model_Parse s (fun (r12 : DD25 × Int × Int) => if (r12.2.2 != 0) = true then jn (fun (v13 : Bool) => Q v13) (fun J14 => if ((r12.1.2.length : Int) == 0) = true then pedagoguelaw15_awake (fun (r15 : Bool) => J14 r15) else J14 false) else model_Text r12.1 (fun (r16 : ByteArray × Int) => jn (fun (v17 : Bool) => jn (fun (v20 : Bool) => Q v20) (fun J21 => if v17 = true then pedagoguelaw15_awake (fun (r22 : Bool) => J21 r22) else J21 false)) (fun J18 => if ((r16.2 == 0) && (r16.1.toList == s.toList)) = true then model_May r12.1 (fun (r19 : Bool) => J18 r19) else J18 false))) := by
    refine parse_v ?_
    cases hp : parseF s.data.toList with
    | mk p Ne =>
    obtain ⟨N, e⟩ := Ne
    dsimp only
    by_cases he : e = 0
    · subst he
      obtain ⟨h1, h2, h3⟩ := parse_inv hp
      rw [if_neg (by simp)]
      have hlen := (lay_all h1).2.1
      refine textM_v (by omega) ?_
      have ht : textF p = (fullT p, 0) := by unfold textF; rw [if_pos h1]
      rw [ht]
      unfold jn
      dsimp only
      have hs : s = B (fullT p) := by rw [← h3]; rfl
      rw [hs, tst, if_pos (by simp)]
      refine mayM_v (by omega) ?_
      rw [h1, if_pos rfl]
      exact awake_v hq
    · rw [if_pos (by simpa using he)]
      have := parse_err (l := s.data.toList) (by rw [hp]; exact he)
      rw [hp] at this
      dsimp only at this
      unfold jn
      dsimp only
      rw [this, if_pos (by rfl)]
      exact awake_v hq
  refine textM_v (by omega) ?_
  refine parse_v ?_
  rw [data_B]
  refine mayM_v (by omega) ?_
  unfold jn at rest ⊢
  dsimp only at rest ⊢
  cases hm : mayMF m with
  | true =>
    have ht : textF m = (fullT m, 0) := by unfold textF; rw [if_pos hm]
    rw [ht]
    dsimp only
    rw [parse_T hm]
    dsimp only
    rw [if_neg (by simp), if_pos (by simp), if_neg (by simp)]
    refine msame_v (by omega) ?_
    rw [decide_eq_true rfl, if_neg (by simp)]
    exact rest
  | false =>
    have ht : textF m = ([], 1) := by unfold textF; rw [if_neg (by rw [hm]; simp)]
    rw [ht]
    dsimp only
    rw [if_neg (by simp), if_neg (by simp), if_neg (by simp)]
    exact rest

end Go.Proofs.YthphkjgkgdjmdaaDoor
