/- Plain laws about numbers, sums and lists. No condition. -/
import Derived.Test.YthphkjgkgdjmdaaDoorVJoin
namespace Go.Mach
set_option linter.unusedVariables false
set_option linter.unusedSimpArgs false

/-! ### Numbers that wrap -/
theorem w64_add_l (a b : Int) : IntKind.i64.wrap (IntKind.i64.wrap a + b) = IntKind.i64.wrap (a + b) := by
  simp only [IntKind.wrap, IntKind.bits, IntKind.signed]; simp; omega
theorem w64_add_r (a b : Int) : IntKind.i64.wrap (a + IntKind.i64.wrap b) = IntKind.i64.wrap (a + b) := by
  simp only [IntKind.wrap, IntKind.bits, IntKind.signed]; simp; omega
theorem w64_w64 (a : Int) : IntKind.i64.wrap (IntKind.i64.wrap a) = IntKind.i64.wrap a := by
  simp only [IntKind.wrap, IntKind.bits, IntKind.signed]; simp; omega
theorem w32_add_l (a b : Int) : IntKind.i32.wrap (IntKind.i32.wrap a + b) = IntKind.i32.wrap (a + b) := by
  simp only [IntKind.wrap, IntKind.bits, IntKind.signed]; simp; omega
theorem w32_add_r (a b : Int) : IntKind.i32.wrap (a + IntKind.i32.wrap b) = IntKind.i32.wrap (a + b) := by
  simp only [IntKind.wrap, IntKind.bits, IntKind.signed]; simp; omega
theorem w32_w64 (a : Int) : IntKind.i32.wrap (IntKind.i64.wrap a) = IntKind.i32.wrap a := by
  simp only [IntKind.wrap, IntKind.bits, IntKind.signed]; simp; omega
theorem w32_w32 (a : Int) : IntKind.i32.wrap (IntKind.i32.wrap a) = IntKind.i32.wrap a := by
  simp only [IntKind.wrap, IntKind.bits, IntKind.signed]; simp; omega

/-! ### Sums -/
/-- A sum of so many numbers. -/
def sumTo (g : Nat → Int) : Nat → Int
  | 0 => 0
  | n + 1 => sumTo g n + g n
theorem sumTo_congr {f g : Nat → Int} {n : Nat} (h : ∀ i, i < n → f i = g i) : sumTo f n = sumTo g n := by
  induction n with
  | zero => rfl
  | succ n ih => simp only [sumTo]; rw [ih fun i hi => h i (by omega), h n (by omega)]
theorem sumTo_zero {f : Nat → Int} {n : Nat} (h : ∀ i, i < n → f i = 0) : sumTo f n = 0 := by
  induction n with
  | zero => rfl
  | succ n ih => simp only [sumTo]; rw [ih fun i hi => h i (by omega), h n (by omega)]; rfl
theorem sumTo_add (f g : Nat → Int) (n : Nat) : sumTo (fun i => f i + g i) n = sumTo f n + sumTo g n := by
  induction n with
  | zero => rfl
  | succ n ih => simp only [sumTo]; rw [ih]; omega
theorem sumTo_sub (f g : Nat → Int) (n : Nat) : sumTo (fun i => f i - g i) n = sumTo f n - sumTo g n := by
  induction n with
  | zero => rfl
  | succ n ih => simp only [sumTo]; rw [ih]; omega
theorem sumTo_mul (c : Int) (f : Nat → Int) (n : Nat) : sumTo (fun i => c * f i) n = c * sumTo f n := by
  induction n with
  | zero => simp [sumTo]
  | succ n ih => simp only [sumTo]; rw [ih, Int.mul_add]
theorem sumTo_mul_r (c : Int) (f : Nat → Int) (n : Nat) : sumTo (fun i => f i * c) n = sumTo f n * c := by
  induction n with
  | zero => simp [sumTo]
  | succ n ih => simp only [sumTo]; rw [ih, Int.add_mul]
theorem sumTo_swap (f : Nat → Nat → Int) (n m : Nat) : sumTo (fun i => sumTo (f i) m) n = sumTo (fun j => sumTo (fun i => f i j) n) m := by
  induction n with
  | zero => exact (sumTo_zero fun _ _ => rfl).symm
  | succ n ih => simp only [sumTo]; rw [ih, sumTo_add]
theorem sumTo_bd (g : Nat → Int) (B : Int) (n : Nat) (h : ∀ i, i < n → -B ≤ g i ∧ g i ≤ B) : -(B * n) ≤ sumTo g n ∧ sumTo g n ≤ B * n := by
  induction n with
  | zero => simp [sumTo]
  | succ n ih =>
    have h1 := ih fun i hi => h i (by omega)
    have h2 := h n (by omega)
    have e : B * ((n + 1 : Nat) : Int) = B * n + B := by rw [Int.natCast_add, Int.mul_add]; simp
    simp only [sumTo]
    omega
theorem sumTo_one {f : Nat → Int} {n k : Nat} (hk : k < n) (h : ∀ i, i < n → i ≠ k → f i = 0) : sumTo f n = f k := by
  induction n with
  | zero => omega
  | succ n ih =>
    simp only [sumTo]
    by_cases e : k = n
    · subst e; rw [sumTo_zero fun i hi => h i (by omega) (by omega)]; omega
    · rw [ih (by omega) fun i hi => h i (by omega), h n (by omega) (by omega)]; omega
theorem sumTo_le {f g : Nat → Int} {n : Nat} (h : ∀ i, i < n → f i ≤ g i) : sumTo f n ≤ sumTo g n := by
  induction n with
  | zero => exact Int.le_refl _
  | succ n ih => simp only [sumTo]; have := ih fun i hi => h i (by omega); have := h n (by omega); omega
/-- Two sums one behind the other. -/
theorem sumTo_app (f : Nat → Int) (n m : Nat) : sumTo f (n + m) = sumTo f n + sumTo (fun i => f (n + i)) m := by
  induction m with
  | zero => simp [sumTo]
  | succ m ih => rw [← Nat.add_assoc]; simp only [sumTo]; rw [ih]; omega
/-- A sum of rows is the sum of all. -/
theorem sumTo_rows (f : Nat → Int) (n m : Nat) : sumTo (fun i => sumTo (fun j => f (i * m + j)) m) n = sumTo f (n * m) := by
  induction n with
  | zero => simp [sumTo]
  | succ n ih =>
    have e : (n + 1) * m = n * m + m := by rw [Nat.add_mul, Nat.one_mul]
    exact (congrArg (· + sumTo (fun j => f (n * m + j)) m) ih).trans (by rw [e, sumTo_app])

/-- The sum of what is made of a list's members. -/
def lsum {α : Type} (l : List α) (f : α → Int) : Int := (l.map f).sum
theorem lsum_nil {α : Type} (f : α → Int) : lsum [] f = 0 := rfl
theorem lsum_cons {α : Type} (a : α) (l : List α) (f : α → Int) : lsum (a :: l) f = f a + lsum l f := by simp [lsum]
theorem lsum_append {α : Type} (l m : List α) (f : α → Int) : lsum (l ++ m) f = lsum l f + lsum m f := by simp [lsum]
theorem lsum_congr {α : Type} {l : List α} {f g : α → Int} (h : ∀ a ∈ l, f a = g a) : lsum l f = lsum l g := by
  induction l with
  | nil => rfl
  | cons a l ih => rw [lsum_cons, lsum_cons, h a (by simp), ih fun b hb => h b (by simp [hb])]
theorem lsum_zero {α : Type} {l : List α} {f : α → Int} (h : ∀ a ∈ l, f a = 0) : lsum l f = 0 := by
  induction l with
  | nil => rfl
  | cons a l ih => rw [lsum_cons, h a (by simp), ih fun b hb => h b (by simp [hb])]; rfl
theorem lsum_add {α : Type} (l : List α) (f g : α → Int) : lsum l (fun a => f a + g a) = lsum l f + lsum l g := by
  induction l with
  | nil => rfl
  | cons a l ih => rw [lsum_cons, lsum_cons, lsum_cons, ih]; omega
theorem lsum_mul {α : Type} (c : Int) (l : List α) (f : α → Int) : lsum l (fun a => c * f a) = c * lsum l f := by
  induction l with
  | nil => simp [lsum]
  | cons a l ih => rw [lsum_cons, lsum_cons, ih, Int.mul_add]
theorem lsum_flatMap {α β : Type} (l : List α) (h : α → List β) (f : β → Int) : lsum (l.flatMap h) f = lsum l (fun a => lsum (h a) f) := by
  induction l with
  | nil => rfl
  | cons a l ih => rw [List.flatMap_cons, lsum_append, lsum_cons, ih]
theorem lsum_range (f : Nat → Int) (n : Nat) : lsum (List.range n) f = sumTo f n := by
  induction n with
  | zero => rfl
  | succ n ih => rw [List.range_succ, lsum_append, ih, lsum_cons, lsum_nil]; simp [sumTo]
theorem lsum_sumTo {α : Type} (l : List α) (f : α → Nat → Int) (n : Nat) : lsum l (fun a => sumTo (f a) n) = sumTo (fun i => lsum l (fun a => f a i)) n := by
  induction l with
  | nil => exact (sumTo_zero fun _ _ => rfl).symm
  | cons a l ih => rw [lsum_cons, ih, ← sumTo_add]; exact sumTo_congr fun i _ => (lsum_cons a l (fun a => f a i)).symm
/-- A list's sum by its places. -/
theorem lsum_getD {α : Type} (l : List α) (f : α → Int) (d : α) : lsum l f = sumTo (fun i => f (l.getD i d)) l.length := by
  induction l with
  | nil => rfl
  | cons a l ih =>
    rw [lsum_cons, ih, List.length_cons, Nat.add_comm, sumTo_app]
    simp only [sumTo, List.getD_cons_zero, Int.zero_add]
    congr 1
    exact sumTo_congr fun i _ => by rw [Nat.add_comm, List.getD_cons_succ]
theorem lsum_filter {α : Type} (l : List α) (p : α → Bool) (f : α → Int) : lsum (l.filter p) f = lsum l (fun a => if p a = true then f a else 0) := by
  induction l with
  | nil => rfl
  | cons a l ih =>
    rw [List.filter_cons, lsum_cons]
    by_cases h : p a = true
    · rw [if_pos h, if_pos h, lsum_cons, ih]
    · rw [if_neg h, if_neg h, ih]; omega

/-! ### Lists made place by place -/
/-- So many places. -/
def tab (n : Nat) (f : Nat → Int) : List Int := (List.range n).map f
@[simp] theorem tab_len (n : Nat) (f : Nat → Int) : (tab n f).length = n := by simp [tab]
theorem mem_tab {n : Nat} {f : Nat → Int} {y : Int} (h : y ∈ tab n f) : ∃ i, i < n ∧ f i = y := by
  unfold tab at h
  simpa only [List.mem_map, List.mem_range] using h
theorem tab_getD {n i : Nat} (f : Nat → Int) (h : i < n) : (tab n f).getD i 0 = f i := by
  unfold tab
  rw [List.getD_eq_getElem?_getD, List.getElem?_map, List.getElem?_range h]; rfl
theorem tab_of {l : List Int} {n : Nat} {f : Nat → Int} (hl : l.length = n) (h : ∀ i, i < n → l.getD i 0 = f i) : l = tab n f := by
  refine List.ext_getElem (by simp [hl]) fun i h1 h2 => ?_
  have := h i (by omega)
  rw [List.getD_eq_getElem?_getD, List.getElem?_eq_getElem h1] at this
  simp only [Option.getD_some] at this
  rw [this]
  simp [tab]
theorem tab_congr {n : Nat} {f g : Nat → Int} (h : ∀ i, i < n → f i = g i) : tab n f = tab n g := by
  refine tab_of (by simp) fun i hi => ?_
  rw [tab_getD _ hi, h i hi]
theorem list_of {l m : List Int} (hl : l.length = m.length) (h : ∀ i, i < l.length → l.getD i 0 = m.getD i 0) : l = m := by
  refine List.ext_getElem hl fun i h1 h2 => ?_
  have := h i h1
  rwa [List.getD_eq_getElem?_getD, List.getElem?_eq_getElem h1, List.getD_eq_getElem?_getD, List.getElem?_eq_getElem h2] at this
theorem getD_set {α : Type} {l : List α} {i j : Nat} {v d : α} (hi : i < l.length) : (l.set i v).getD j d = if i = j then v else l.getD j d := by
  rw [List.getD_eq_getElem?_getD, List.getElem?_set]
  by_cases h : i = j
  · subst h; rw [if_pos rfl, if_pos rfl, if_pos hi]; rfl
  · rw [if_neg h, if_neg h, List.getD_eq_getElem?_getD]
theorem getD_mem {l : List Int} {i : Nat} (h : i < l.length) : l.getD i 0 ∈ l := by
  rw [List.getD_eq_getElem?_getD, List.getElem?_eq_getElem h]; exact List.getElem_mem h
theorem getD_repl {n i : Nat} {v : Int} (h : i < n) : (List.replicate n v).getD i 0 = v := by
  rw [List.getD_eq_getElem?_getD, List.getElem?_replicate, if_pos h]; rfl

theorem all_take {α : Type} {l : List α} {p : α → Bool} {i : Nat} {d : α} (hi : i < l.length) : (l.take (i + 1)).all p = ((l.take i).all p && p (l.getD i d)) := by
  rw [List.take_add_one, List.all_append, List.getD_eq_getElem?_getD, List.getElem?_eq_getElem hi]
  simp
theorem all_at {α : Type} {l : List α} {p : α → Bool} {i : Nat} {d : α} (hi : i < l.length) (h : p (l.getD i d) = false) : l.all p = false := by
  rw [List.all_eq_false]
  refine ⟨l[i], List.getElem_mem hi, ?_⟩
  rw [List.getD_eq_getElem?_getD, List.getElem?_eq_getElem hi] at h
  simp only [Option.getD_some] at h
  rw [h]; simp

/-! ### Places in rows of rows -/
theorem ix_lt {r R n i : Nat} (h1 : r < R) (h2 : i < n) : r * n + i < R * n := by
  have : (r + 1) * n ≤ R * n := Nat.mul_le_mul_right n h1
  rw [Nat.add_mul, Nat.one_mul] at this
  omega
theorem ix_div {r n i : Nat} (h : i < n) : (r * n + i) / n = r := by
  rw [Nat.mul_comm, Nat.mul_add_div (by omega), Nat.div_eq_of_lt h]; rfl
theorem ix_mod {r n i : Nat} (h : i < n) : (r * n + i) % n = i := by
  rw [Nat.mul_comm, Nat.mul_add_mod, Nat.mod_eq_of_lt h]
theorem ix_inj {r n i r' i' : Nat} (h : i < n) (h' : i' < n) (e : r * n + i = r' * n + i') : r = r' ∧ i = i' := by
  have h1 := ix_div (r := r) h
  have h2 := ix_mod (r := r) h
  rw [e] at h1 h2
  rw [ix_div h'] at h1
  rw [ix_mod h'] at h2
  exact ⟨h1.symm, h2.symm⟩

/-! ### Four lengths -/
def ix4 (O P Q m o p q : Nat) : Nat := ((m * O + o) * P + p) * Q + q
theorem ix4_lt {n O P Q m o p q : Nat} (hm : m < n) (ho : o < O) (hp : p < P) (hq : q < Q) : ix4 O P Q m o p q < n * O * P * Q := ix_lt (ix_lt (ix_lt hm ho) hp) hq
theorem ix4_inj {O P Q m o p q m' o' p' q' : Nat} (ho : o < O) (hp : p < P) (hq : q < Q) (ho' : o' < O) (hp' : p' < P) (hq' : q' < Q) (e : ix4 O P Q m o p q = ix4 O P Q m' o' p' q') : m = m' ∧ o = o' ∧ p = p' ∧ q = q' := by
  obtain ⟨e1, e2⟩ := ix_inj hq hq' e
  obtain ⟨e3, e4⟩ := ix_inj hp hp' e1
  obtain ⟨e5, e6⟩ := ix_inj ho ho' e3
  exact ⟨e5, e6, e4, e2⟩
theorem ix_cover {n k t : Nat} (h : t < n * k) : t / k < n ∧ t % k < k ∧ t = t / k * k + t % k := by
  have hk : 0 < k := by
    rcases Nat.eq_zero_or_pos k with e | e
    · rw [e, Nat.mul_zero] at h; omega
    · exact e
  refine ⟨by rw [Nat.div_lt_iff_lt_mul hk]; exact h, Nat.mod_lt _ hk, ?_⟩
  rw [Nat.mul_comm]; exact (Nat.div_add_mod t k).symm
theorem ix4_cover {n O P Q t : Nat} (h : t < n * O * P * Q) : ∃ m o p q, m < n ∧ o < O ∧ p < P ∧ q < Q ∧ t = ix4 O P Q m o p q := by
  obtain ⟨a1, a2, a3⟩ := ix_cover h
  obtain ⟨b1, b2, b3⟩ := ix_cover a1
  obtain ⟨c1, c2, c3⟩ := ix_cover b1
  exact ⟨_, _, _, _, c1, c2, b2, a2, by unfold ix4; rw [← c3, ← b3, ← a3]⟩
/-- A list of four lengths, place by place. -/
def lst4 (n O P Q : Nat) (cell : Nat → Nat → Nat → Nat → Int) : List Int := tab (n * O * P * Q) fun t => cell (t / Q / P / O) (t / Q / P % O) (t / Q % P) (t % Q)
theorem lst4_len (n O P Q : Nat) (cell : Nat → Nat → Nat → Nat → Int) : (lst4 n O P Q cell).length = n * O * P * Q := by simp [lst4]
theorem lst4_get {n O P Q m o p q : Nat} {cell : Nat → Nat → Nat → Nat → Int} (hm : m < n) (ho : o < O) (hp : p < P) (hq : q < Q) : (lst4 n O P Q cell).getD (ix4 O P Q m o p q) 0 = cell m o p q := by
  unfold lst4
  rw [tab_getD _ (ix4_lt hm ho hp hq)]
  unfold ix4
  rw [ix_div hq, ix_div hp, ix_div ho, ix_mod hq, ix_mod hp, ix_mod ho]
/-- What is told of some places already. -/
structure Fill (n O P Q : Nat) (cell : Nat → Nat → Nat → Nat → Int) (C : Nat → Nat → Nat → Nat → Prop) (L : List Int) : Prop where
  len : L.length = n * O * P * Q
  tell : ∀ m o p q, m < n → o < O → p < P → q < Q → C m o p q → L.getD (ix4 O P Q m o p q) 0 = cell m o p q
theorem Fill.mono {n O P Q : Nat} {cell : Nat → Nat → Nat → Nat → Int} {C C' : Nat → Nat → Nat → Nat → Prop} {L : List Int} (h : Fill n O P Q cell C L) (hc : ∀ m o p q, m < n → o < O → p < P → q < Q → C' m o p q → C m o p q) : Fill n O P Q cell C' L :=
  ⟨h.len, fun m o p q hm ho hp hq hC => h.tell m o p q hm ho hp hq (hc m o p q hm ho hp hq hC)⟩
theorem Fill.set {n O P Q : Nat} {cell : Nat → Nat → Nat → Nat → Int} {C C' : Nat → Nat → Nat → Nat → Prop} {L : List Int} (h : Fill n O P Q cell C L) {m0 o0 p0 q0 : Nat} (hm : m0 < n) (ho : o0 < O) (hp : p0 < P) (hq : q0 < Q)
    {v : Int} (hv : v = cell m0 o0 p0 q0) (hc : ∀ m o p q, m < n → o < O → p < P → q < Q → C' m o p q → C m o p q ∨ (m = m0 ∧ o = o0 ∧ p = p0 ∧ q = q0)) : Fill n O P Q cell C' (L.set (ix4 O P Q m0 o0 p0 q0) v) := by
  have hlt := ix4_lt hm ho hp hq
  refine ⟨by rw [List.length_set]; exact h.len, fun m o p q hm' ho' hp' hq' hC => ?_⟩
  rw [getD_set (by rw [h.len]; exact hlt)]
  by_cases e : ix4 O P Q m0 o0 p0 q0 = ix4 O P Q m o p q
  · rw [if_pos e]
    obtain ⟨e1, e2, e3, e4⟩ := ix4_inj ho hp hq ho' hp' hq' e
    rw [hv, e1, e2, e3, e4]
  · rw [if_neg e]
    rcases hc m o p q hm' ho' hp' hq' hC with g | ⟨rfl, rfl, rfl, rfl⟩
    · exact h.tell m o p q hm' ho' hp' hq' g
    · exact absurd rfl e
theorem list4_ext {n O P Q : Nat} {L M : List Int} (hl : L.length = n * O * P * Q) (hm : M.length = n * O * P * Q) (h : ∀ m o p q, m < n → o < O → p < P → q < Q → L.getD (ix4 O P Q m o p q) 0 = M.getD (ix4 O P Q m o p q) 0) : L = M := by
  refine list_of (by omega) fun t ht => ?_
  obtain ⟨m, o, p, q, h1, h2, h3, h4, rfl⟩ := ix4_cover (hl ▸ ht)
  exact h m o p q h1 h2 h3 h4
theorem Fill.all {n O P Q : Nat} {cell : Nat → Nat → Nat → Nat → Int} {C : Nat → Nat → Nat → Nat → Prop} {L : List Int} (h : Fill n O P Q cell C L) (hC : ∀ m o p q, m < n → o < O → p < P → q < Q → C m o p q) : L = lst4 n O P Q cell :=
  list4_ext h.len (lst4_len _ _ _ _ _) fun m o p q hm ho hp hq => by rw [lst4_get hm ho hp hq, h.tell m o p q hm ho hp hq (hC m o p q hm ho hp hq)]
theorem lst4_congr {n O P Q : Nat} {f g : Nat → Nat → Nat → Nat → Int} (h : ∀ m o p q, m < n → o < O → p < P → q < Q → f m o p q = g m o p q) : lst4 n O P Q f = lst4 n O P Q g :=
  list4_ext (lst4_len _ _ _ _ _) (lst4_len _ _ _ _ _) fun m o p q hm ho hp hq => by rw [lst4_get hm ho hp hq, lst4_get hm ho hp hq, h m o p q hm ho hp hq]

/-! ### Loops -/
/-- A loop so many times round, with what holds at each. -/
theorem Loop.rangeI {S : Type} {B : S → (S → Prop) → Prop} (n : Nat) (I : Nat → S → Prop) {s0 : S} (h0 : I 0 s0) (step : ∀ i, i < n → ∀ s, I i s → ∀ X, (∀ s', I (i + 1) s' → X s') → B s X) (last : ∀ s, I n s → ∀ X, B s X) : Loop B s0 := by
  refine Loop.inv (n := n) (fun m s => ∃ i, i + m = n ∧ I i s) ⟨0, by omega, h0⟩ ?_
  rintro m s X ⟨i, hi, hI⟩ hX
  by_cases h : i < n
  · exact step i h s hI X fun s' hI' => hX (m - 1) s' (by omega) ⟨i + 1, by omega, hI'⟩
  · have : i = n := by omega
    subst this
    exact last s hI X
/-- A loop that asks each member, and leaves at the first that is not so. -/
theorem Loop.all {α : Type} {B : Int → (Int → Prop) → Prop} (l : List α) (p : α → Bool) {K0 K1 : Prop}
    (step : ∀ i (h : i < l.length) X, (p l[i] = true → X ((i + 1 : Nat) : Int)) → (p l[i] = false → K1) → B (i : Int) X) (last : K0 → ∀ X, B (l.length : Int) X)
    (h : if l.all p = true then K0 else K1) : Loop B 0 := by
  refine Loop.range (B := B) (f := fun i : Nat => (i : Int)) l.length (fun i => ∀ j (hj : j < i) (hl : j < l.length), p l[j] = true) (fun j hj => absurd hj (by omega)) ?_ ?_
  · intro i hi hI X hX
    refine step i hi X (fun hp => hX fun j hj hl => ?_) (fun hp => ?_)
    · by_cases e : j = i
      · subst e; exact hp
      · exact hI j (by omega) hl
    · have : ¬ l.all p = true := by
        rw [List.all_eq_true]
        intro ha
        have := ha _ (List.getElem_mem hi)
        rw [hp] at this; cases this
      rwa [if_neg this] at h
  · intro hI X
    refine last ?_ X
    have : l.all p = true := by
      rw [List.all_eq_true]
      intro a ha
      obtain ⟨j, hj, rfl⟩ := List.getElem_of_mem ha
      exact hI j hj hj
    rwa [if_pos this] at h

end Go.Mach
