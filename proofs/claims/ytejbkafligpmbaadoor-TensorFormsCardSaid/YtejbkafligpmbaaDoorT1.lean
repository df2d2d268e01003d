/- Texts of tensors: numerals, rows of numerals, and that unlike tensors have unlike texts. No condition. -/
import Derived.Test.YtejbkafligpmbaaDoorRef1T
namespace Go.Proofs.YtejbkafligpmbaaDoor
open Go.Mach
set_option maxRecDepth 100000
set_option linter.unusedVariables false
set_option linter.unusedSimpArgs false

/-! ### Bytes -/
theorem bytes_loop (s : ByteArray) : ∀ (n i : Nat) (r : List UInt8), s.size - i = n → ByteArray.toList.loop s i r = r.reverse ++ s.data.toList.drop i
  | 0, i, r, h => by
    have e : s.data.toList.length = s.size := by rw [Array.length_toList]; rfl
    rw [ByteArray.toList.loop, if_neg (by omega), List.drop_eq_nil_of_le (by omega), List.append_nil]
  | n + 1, i, r, h => by
    rw [ByteArray.toList.loop, if_pos (by omega), bytes_loop s n (i + 1) _ (by omega)]
    have e : s.data.toList.length = s.size := by rw [Array.length_toList]; rfl
    have hi : i < s.data.toList.length := by omega
    rw [List.drop_eq_getElem_cons hi]
    simp [ByteArray.get!]
    rw [getElem!_pos s.data i (by simpa using hi)]
theorem bytes_toList (s : ByteArray) : s.toList = s.data.toList := by
  unfold ByteArray.toList
  rw [bytes_loop s s.size 0 [] rfl]
  simp
theorem bytes_eq (a b : ByteArray) : (a.toList == b.toList) = decide (a = b) := by
  rw [bytes_toList, bytes_toList, Bool.eq_iff_iff, beq_iff_eq, decide_eq_true_iff]
  constructor
  · intro h
    cases a; cases b
    simp at h ⊢
    exact h
  · intro h; rw [h]

/-! ### Numerals -/
def Num (c : UInt8) : Prop := c = 45 ∨ (48 ≤ c.toNat ∧ c.toNat ≤ 57)
theorem dig {u : Nat} (h : u < 10) : (UInt8.ofNat (48 + u)).toNat = 48 + u := by
  rw [UInt8.toNat_ofNat']
  exact Nat.mod_eq_of_lt (by omega)
theorem dec_num : ∀ (u : Nat), ∀ c ∈ Lib.decDigits u, 48 ≤ c.toNat ∧ c.toNat ≤ 57 := by
  intro u
  induction u using Nat.strongRecOn with
  | ind u ih =>
    intro c hc
    rw [Lib.decDigits] at hc
    split at hc
    · rename_i h
      simp only [List.mem_singleton] at hc
      subst hc
      rw [dig h]; omega
    · rename_i h
      rcases List.mem_append.1 hc with hc | hc
      · exact ih (u / 10) (by omega) c hc
      · simp only [List.mem_singleton] at hc
        subst hc
        rw [dig (by omega)]; omega
def valD (l : List UInt8) : Nat := l.foldl (fun a c => 10 * a + (c.toNat - 48)) 0
theorem valD_dec : ∀ u : Nat, valD (Lib.decDigits u) = u := by
  intro u
  induction u using Nat.strongRecOn with
  | ind u ih =>
    rw [Lib.decDigits]
    split
    · rename_i h
      unfold valD
      simp only [List.foldl_cons, List.foldl_nil]
      rw [dig h]; omega
    · rename_i h
      have := ih (u / 10) (by omega)
      unfold valD at this ⊢
      rw [List.foldl_append, this]
      simp only [List.foldl_cons, List.foldl_nil]
      rw [dig (by omega)]; omega
theorem dec_inj {a b : Nat} (h : Lib.decDigits a = Lib.decDigits b) : a = b := by
  rw [← valD_dec a, h, valD_dec]
theorem dec_no45 (u : Nat) (l : List UInt8) : Lib.decDigits u ≠ 45 :: l := by
  intro h
  have := dec_num u 45 (by rw [h]; simp)
  simp at this
theorem itoa_num (n : Int) : ∀ c ∈ Lib.itoa n, Num c := by
  intro c hc
  unfold Lib.itoa at hc
  split at hc
  · rcases List.mem_cons.1 hc with h | h
    · exact .inl h
    · exact .inr (dec_num _ c h)
  · exact .inr (dec_num _ c hc)
theorem itoa_inj {a b : Int} (h : Lib.itoa a = Lib.itoa b) : a = b := by
  unfold Lib.itoa at h
  split at h <;> split at h
  · have := dec_inj (List.cons_inj_right _ |>.1 h)
    omega
  · exact absurd h.symm (dec_no45 _ _)
  · exact absurd h (dec_no45 _ _)
  · have := dec_inj h
    omega
theorem itoa_len {n : Int} (h1 : -9223372036854775808 ≤ n) (h2 : n ≤ 9223372036854775807) : (Lib.itoa n).length ≤ 21 := by
  have key : ∀ u : Nat, u ≤ 9223372036854775808 → (Lib.decDigits u).length ≤ 20 := by
    intro u hu
    rw [Lib.decDigits_length]
    rcases Nat.lt_or_ge 20 (Lib.nDigits u) with h | h
    · exfalso
      have := (Lib.decDigits_eq u)
      have h3 : 10 ^ 20 ≤ u := by
        have key2 : ∀ (k u : Nat), k < Lib.nDigits u → 0 < k → 10 ^ k ≤ u := by
          intro k
          induction k with
          | zero => intro u _ h; omega
          | succ k ih =>
            intro u hk _
            by_cases h10 : u < 10
            · rw [Lib.nDigits_small h10] at hk; omega
            · rw [Lib.nDigits_big h10] at hk
              rcases Nat.eq_zero_or_pos k with rfl | hk0
              · simp; omega
              · have := ih (u / 10) (by omega) hk0
                rw [Nat.pow_succ]
                omega
        exact key2 20 u h (by omega)
      omega
    · exact h
  unfold Lib.itoa
  split
  · have := key n.natAbs (by omega)
    simp; omega
  · have := key n.toNat (by omega)
    omega

/-! ### Rows -/
theorem span_eq : ∀ {x y : List UInt8} {c d : UInt8} {r r' : List UInt8}, (∀ z ∈ x, Num z) → (∀ z ∈ y, Num z) → ¬ Num c → ¬ Num d → x ++ c :: r = y ++ d :: r' → x = y ∧ c = d ∧ r = r'
  | [], [], c, d, r, r', _, _, _, _, h => by
    simp only [List.nil_append, List.cons.injEq] at h
    exact ⟨rfl, h.1, h.2⟩
  | [], b :: y, c, d, r, r', _, hy, hc, _, h => by
    simp only [List.nil_append, List.cons_append, List.cons.injEq] at h
    exact absurd (h.1 ▸ hy b (by simp)) hc
  | a :: x, [], c, d, r, r', hx, _, _, hd, h => by
    simp only [List.nil_append, List.cons_append, List.cons.injEq] at h
    exact absurd (h.1 ▸ hx a (by simp)) hd
  | a :: x, b :: y, c, d, r, r', hx, hy, hc, hd, h => by
    simp only [List.cons_append, List.cons.injEq] at h
    obtain ⟨e1, e2, e3⟩ := span_eq (fun z hz => hx z (List.mem_cons_of_mem _ hz)) (fun z hz => hy z (List.mem_cons_of_mem _ hz)) hc hd h.2
    exact ⟨by rw [h.1, e1], e2, e3⟩
theorem join_cc (x y : List UInt8) (l : List (List UInt8)) (sep : List UInt8) : Lib.join (x :: y :: l) sep = x ++ (sep ++ Lib.join (y :: l) sep) := by
  rw [Lib.join_cons, Lib.join_cons]
  simp [Lib.joinTail]
theorem join_eq {s t : UInt8} (hs : ¬ Num s) (ht : ¬ Num t) (hst : s ≠ t) : ∀ {xs ys : List (List UInt8)} {r r' : List UInt8}, xs ≠ [] → ys ≠ [] → (∀ x ∈ xs, ∀ z ∈ x, Num z) → (∀ x ∈ ys, ∀ z ∈ x, Num z) →
    Lib.join xs [s] ++ t :: r = Lib.join ys [s] ++ t :: r' → xs = ys ∧ r = r'
  | [], _, _, _, h, _, _, _, _ => absurd rfl h
  | _ :: _, [], _, _, _, h, _, _, _ => absurd rfl h
  | [x], [y], r, r', _, _, hx, hy, h => by
    rw [Lib.join_one, Lib.join_one] at h
    obtain ⟨e1, _, e3⟩ := span_eq (hx x (by simp)) (hy y (by simp)) ht ht h
    exact ⟨by rw [e1], e3⟩
  | [x], y :: y2 :: l, r, r', _, _, hx, hy, h => by
    rw [Lib.join_one, join_cc, List.append_assoc, List.append_assoc] at h
    obtain ⟨_, e2, _⟩ := span_eq (hx x (by simp)) (hy y (by simp)) ht hs h
    exact absurd e2.symm hst
  | x :: x2 :: l, [y], r, r', _, _, hx, hy, h => by
    rw [Lib.join_one, join_cc, List.append_assoc, List.append_assoc] at h
    obtain ⟨_, e2, _⟩ := span_eq (hx x (by simp)) (hy y (by simp)) hs ht h
    exact absurd e2 hst
  | x :: x2 :: l, y :: y2 :: l', r, r', _, _, hx, hy, h => by
    rw [join_cc, join_cc, List.append_assoc, List.append_assoc, List.append_assoc, List.append_assoc] at h
    obtain ⟨e1, _, e3⟩ := span_eq (hx x (by simp)) (hy y (by simp)) hs hs h
    obtain ⟨e4, e5⟩ := join_eq hs ht hst (by simp) (by simp) (fun z hz => hx z (List.mem_cons_of_mem _ hz)) (fun z hz => hy z (List.mem_cons_of_mem _ hz)) e3
    exact ⟨by rw [e1, e4], e5⟩

/-! ### A tensor's text -/
def numsL (l : List Int) (s : UInt8) : List UInt8 := Lib.join (l.map Lib.itoa) [s]
theorem numsL_eq {s t : UInt8} (hs : ¬ Num s) (ht : ¬ Num t) (hst : s ≠ t) {l l' : List Int} {r r' : List UInt8} (h1 : l ≠ []) (h2 : l' ≠ []) (h : numsL l s ++ t :: r = numsL l' s ++ t :: r') : l = l' ∧ r = r' := by
  obtain ⟨e1, e2⟩ := join_eq hs ht hst (by simpa using h1) (by simpa using h2) (fun x hx => by obtain ⟨n, _, rfl⟩ := List.mem_map.1 hx; exact itoa_num n) (fun x hx => by obtain ⟨n, _, rfl⟩ := List.mem_map.1 hx; exact itoa_num n) h
  exact ⟨List.map_inj_right (fun a b => itoa_inj) |>.1 e1, e2⟩
def textL (a : List Int × Int × List Int) : List UInt8 := numsL a.1 120 ++ 64 :: (Lib.itoa a.2.1 ++ 58 :: numsL a.2.2 44)
theorem textL_inj {a b : List Int × Int × List Int} (ha : a.1 ≠ []) (hb : b.1 ≠ []) (ha2 : a.2.2 ≠ []) (hb2 : b.2.2 ≠ []) (h : textL a = textL b) : a = b := by
  have n64 : ¬ Num 64 := by unfold Num; decide
  have n58 : ¬ Num 58 := by unfold Num; decide
  have n44 : ¬ Num 44 := by unfold Num; decide
  have n120 : ¬ Num 120 := by unfold Num; decide
  have n0 : ¬ Num 0 := by unfold Num; decide
  unfold textL at h
  obtain ⟨e1, h⟩ := numsL_eq n120 n64 (by decide) ha hb h
  obtain ⟨e2, _, h⟩ := span_eq (itoa_num _) (itoa_num _) n58 n58 h
  obtain ⟨e3, _⟩ := numsL_eq (r := []) (r' := []) n44 n0 (by decide) ha2 hb2 (by rw [h])
  have e2 := itoa_inj e2
  obtain ⟨a1, a2, a3⟩ := a
  obtain ⟨b1, b2, b3⟩ := b
  simp only at e1 e2 e3
  rw [e1, e2, e3]

theorem lens_le (k : Nat) : ∀ (l : List (List UInt8)), (∀ x ∈ l, x.length ≤ k) → Lib.lens l ≤ k * l.length
  | [], _ => by simp [Lib.lens]
  | x :: l, h => by
    have h1 := h x (by simp)
    have h2 := lens_le k l (fun y hy => h y (List.mem_cons_of_mem _ hy))
    have h3 : Lib.lens (x :: l) = x.length + Lib.lens l := by simp [Lib.lens]
    rw [h3, List.length_cons, Nat.mul_add]
    omega
theorem numsL_len (l : List Int) (s : UInt8) (h : ∀ x ∈ l, -9223372036854775808 ≤ x ∧ x ≤ 9223372036854775807) : (numsL l s).length ≤ 22 * l.length := by
  cases l with
  | nil => simp [numsL, Lib.join_nil]
  | cons x l =>
    unfold numsL
    rw [List.map_cons, Lib.join_length]
    have := lens_le 21 (Lib.itoa x :: l.map Lib.itoa) (fun y hy => by
      rw [← List.map_cons (f := Lib.itoa)] at hy
      obtain ⟨n, hn, rfl⟩ := List.mem_map.1 hy
      exact itoa_len (h n hn).1 (h n hn).2)
    simp at this ⊢
    omega
def textF (a : List Int × Int × List Int) : ByteArray := if mayF a = true then ⟨(textL a).toArray⟩ else ⟨#[63]⟩
theorem joinS_nums (l : List Int) (s : UInt8) : joinS (l.map itoaS) ⟨#[s]⟩ = ⟨(numsL l s).toArray⟩ := by
  unfold joinS numsL itoaS
  simp [List.map_map, Function.comp_def]

end Go.Proofs.YtejbkafligpmbaaDoor
