/- Numerals of four digits: strconv.Atoi and Itoa. Laws; no condition. -/
import Derived.Test.YthphkjgkgdjmdaaDoorKA
namespace Go.Proofs.YthphkjgkgdjmdaaDoor
open Go.Mach
set_option maxRecDepth 100000
set_option linter.unusedVariables false
set_option linter.unusedSimpArgs false

theorem dig {u : Nat} (h : u < 10) : (UInt8.ofNat (48 + u)).toNat = 48 + u := by
  rw [UInt8.toNat_ofNat']
  exact Nat.mod_eq_of_lt (by omega)
theorem dec_num : ∀ (u : Nat), ∀ c ∈ Lib.decDigits u, 48 ≤ c.toNat ∧ c.toNat ≤ 57 := by
  intro u
  induction u using Nat.strongRecOn with
  | ind u ih =>
    intro c hc
    rw [Lib.decDigits] at hc
    split at hc
    · rename_i h
      simp only [List.mem_singleton] at hc
      subst hc
      rw [dig h]; omega
    · rename_i h
      rcases List.mem_append.1 hc with hc | hc
      · exact ih (u / 10) (by omega) c hc
      · simp only [List.mem_singleton] at hc
        subst hc
        rw [dig (by omega)]; omega
def valD (l : List UInt8) : Nat := l.foldl (fun a c => 10 * a + (c.toNat - 48)) 0
theorem valD_dec : ∀ u : Nat, valD (Lib.decDigits u) = u := by
  intro u
  induction u using Nat.strongRecOn with
  | ind u ih =>
    rw [Lib.decDigits]
    split
    · rename_i h
      unfold valD
      simp only [List.foldl_cons, List.foldl_nil]
      rw [dig h]; omega
    · rename_i h
      have := ih (u / 10) (by omega)
      unfold valD at this ⊢
      rw [List.foldl_append, this]
      simp only [List.foldl_cons, List.foldl_nil]
      rw [dig (by omega)]; omega

def isDig (c : UInt8) : Bool := decide (48 ≤ c.toNat ∧ c.toNat ≤ 57)
theorem valD_app (l : List UInt8) (c : UInt8) : valD (l ++ [c]) = 10 * valD l + (c.toNat - 48) := by
  unfold valD
  rw [List.foldl_append]
  rfl
theorem ofNat_dig {c : UInt8} (h : 48 ≤ c.toNat ∧ c.toNat ≤ 57) : UInt8.ofNat (48 + (c.toNat - 48)) = c := by
  apply UInt8.toNat_inj.1
  rw [dig (by omega)]
  omega
theorem dec_head : ∀ u : Nat, ∀ c, (Lib.decDigits u).head? = some c → c.toNat = 48 → u = 0 := by
  intro u
  induction u using Nat.strongRecOn with
  | ind u ih =>
    intro c hc h48
    rw [Lib.decDigits] at hc
    split at hc
    · rename_i h
      simp only [List.head?_cons, Option.some.injEq] at hc
      rw [← hc, dig h] at h48
      omega
    · rename_i h
      have h0 : (Lib.decDigits (u / 10)).head? = some c := by
        cases hd : Lib.decDigits (u / 10) with
        | nil =>
          have := Lib.decDigits_length (u / 10)
          have h2 := Lib.nDigits_pos (u / 10)
          rw [hd] at this
          simp at this
          omega
        | cons x r => rw [hd] at hc; simpa using hc
      have := ih (u / 10) (by omega) c h0 h48
      omega
/-- A row of digits that does not begin with a nought is its number's numeral. -/
theorem dec_val : ∀ (n : Nat) (l : List UInt8), l.length = n → l ≠ [] → (∀ c ∈ l, 48 ≤ c.toNat ∧ c.toNat ≤ 57) → (∀ c, l.head? = some c → c.toNat ≠ 48) → Lib.decDigits (valD l) = l ∧ 1 ≤ valD l := by
  intro n
  induction n with
  | zero => intro l hl hne; exact absurd (List.length_eq_zero_iff.1 hl) hne
  | succ n ih =>
    intro l hl hne hd hh
    rcases List.eq_nil_or_concat l with rfl | ⟨l', c, rfl⟩
    · exact absurd rfl hne
    rw [List.concat_eq_append] at *
    have hc := hd c (by simp)
    by_cases h0 : l' = []
    · subst h0
      have h48 := hh c rfl
      have hv : valD ([] ++ [c]) = c.toNat - 48 := by rw [valD_app]; simp [valD]
      rw [hv]
      refine ⟨?_, by omega⟩
      rw [Lib.decDigits, dif_pos (by omega), ofNat_dig hc]
      rfl
    · have hl' : l'.length = n := by simpa using hl
      have := ih l' hl' h0 (fun x hx => hd x (by simp [hx])) (fun x hx => hh x (by
        cases l' with
        | nil => exact absurd rfl h0
        | cons y r => simpa using hx))
      rw [valD_app]
      refine ⟨?_, by omega⟩
      rw [Lib.decDigits, dif_neg (by omega)]
      rw [show (10 * valD l' + (c.toNat - 48)) / 10 = valD l' by omega, show (10 * valD l' + (c.toNat - 48)) % 10 = c.toNat - 48 by omega, this.1, ofNat_dig hc]
theorem val_lt : ∀ (l : List UInt8), (∀ c ∈ l, 48 ≤ c.toNat ∧ c.toNat ≤ 57) → valD l < 10 ^ l.length := by
  intro l
  induction hn : l.length generalizing l with
  | zero => intro _; rw [List.length_eq_zero_iff.1 hn]; simp [valD]
  | succ n ih =>
    intro hd
    rcases List.eq_nil_or_concat l with rfl | ⟨l', c, rfl⟩
    · simp at hn
    rw [List.concat_eq_append] at *
    have hc := hd c (by simp)
    have := ih l' (by simpa using hn) (fun x hx => hd x (by simp [hx]))
    rw [valD_app, Nat.pow_succ]
    omega

/-- A number's numeral of at most four digits. -/
def digF (l : List UInt8) : Option Int := if l ≠ [] ∧ l.length ≤ 4 ∧ l.all isDig = true ∧ (l.head? = some 48 → l = [48]) then some (valD l : Int) else none
theorem dig_all {l : List UInt8} (h : l.all isDig = true) : ∀ c ∈ l, 48 ≤ c.toNat ∧ c.toNat ≤ 57 := fun c hc => by
  have := List.all_eq_true.1 h c hc
  unfold isDig at this
  exact of_decide_eq_true this
theorem dec_digs {l : List UInt8} (hne : l ≠ []) (h : l.all isDig = true) (hh : l.head? = some 48 → l = [48]) : Lib.decDigits (valD l) = l := by
  by_cases h0 : l.head? = some 48
  · rw [hh h0]
    show Lib.decDigits 0 = _
    rw [Lib.decDigits, dif_pos (by omega)]
    rfl
  · refine (dec_val _ l rfl hne (dig_all h) ?_).1
    intro c hc h48
    refine h0 ?_
    rw [hc]
    congr 1
    exact UInt8.toNat_inj.1 h48
theorem decFrom_val : ∀ (l : List UInt8) (acc : Nat), (∀ c ∈ l, 48 ≤ c.toNat ∧ c.toNat ≤ 57) → Lib.decFrom acc l = some (l.foldl (fun a c => 10 * a + (c.toNat - 48)) acc)
  | [], acc, _ => rfl
  | c :: r, acc, h => by
    have hc := h c (by simp)
    unfold Lib.decFrom Lib.digitVal
    rw [if_pos hc]
    simp only [List.foldl_cons]
    rw [decFrom_val r _ (fun x hx => h x (by simp [hx])), Nat.mul_comm acc 10]
theorem atoi_val {l : List UInt8} (hne : l ≠ []) (hl : l.length ≤ 4) (h : l.all isDig = true) : Lib.atoiAll l = .ok (valD l : Int) := by
  rw [Lib.atoiAll_short l (by omega)]
  cases l with
  | nil => exact absurd rfl hne
  | cons c r =>
    have hc := dig_all h c (by simp)
    have h1 : (c == 45) = false := by
      rw [beq_eq_false_iff_ne]; intro e; rw [e] at hc; exact absurd hc (by decide)
    have h2 : (c == 43) = false := by
      rw [beq_eq_false_iff_ne]; intro e; rw [e] at hc; exact absurd hc (by decide)
    unfold Lib.atoi
    simp only [h1, h2, Bool.false_eq_true, if_false]
    unfold Lib.decNat
    rw [if_neg (by simp), decFrom_val _ _ (dig_all h)]
    rfl

/-- What the program asks of a word. -/
def numW (w : ByteArray) : Option Int := if (atoiS w).2 = true ∧ 0 ≤ (atoiS w).1 ∧ w.size ≤ 4 ∧ itoaS (atoiS w).1 = w then some (atoiS w).1 else none
theorem bytes_data {l : List UInt8} {w : ByteArray} (h : (⟨l.toArray⟩ : ByteArray) = w) : w.data.toList = l := by rw [← h]
theorem numW_eq (w : ByteArray) : numW w = digF w.data.toList := by
  have hsz : w.data.toList.length = w.size := rfl
  unfold numW
  split
  · rename_i h
    obtain ⟨h1, h2, h3, h4⟩ := h
    obtain ⟨u, hu⟩ := Int.eq_ofNat_of_zero_le h2
    rw [hu] at h4 ⊢
    have e : w.data.toList = Lib.decDigits u := by
      have := bytes_data h4
      rw [this]
      unfold Lib.itoa
      rw [if_neg (by omega)]
      rfl
    unfold digF
    rw [if_pos, e, valD_dec]
    rw [e]
    rw [e] at hsz
    refine ⟨?_, by omega, ?_, ?_⟩
    · intro k
      have := Lib.decDigits_length u
      have h5 := Lib.nDigits_pos u
      rw [k] at this
      simp at this
      omega
    · exact List.all_eq_true.2 fun c hc => decide_eq_true (dec_num u c hc)
    · intro hh
      have := dec_head u 48 hh rfl
      subst this
      rw [Lib.decDigits, dif_pos (by omega)]
      rfl
  · rename_i h
    unfold digF
    split
    · rename_i hd
      obtain ⟨k1, k2, k3, k4⟩ := hd
      exfalso
      refine h ?_
      have ha := atoi_val k1 k2 k3
      have hs : atoiS w = ((valD w.data.toList : Int), true) := by
        unfold atoiS
        rw [ha]
      rw [hs]
      refine ⟨rfl, by simp, by omega, ?_⟩
      unfold itoaS Lib.itoa
      simp only
      rw [if_neg (by omega), Int.toNat_natCast, dec_digs k1 k3 k4]
    · rfl

end Go.Proofs.YthphkjgkgdjmdaaDoor
