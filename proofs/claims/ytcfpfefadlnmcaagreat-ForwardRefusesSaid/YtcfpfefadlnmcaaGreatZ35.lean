/- Part of the proof. No condition. -/
import Derived.Test.YtcfpfefadlnmcaaGreatZ34
import Derived.Test.YtcfpfefadlnmcaaGreatZ33
namespace Go.Proofs.YtcfpfefadlnmcaaGreat
open Go.Mach
set_option maxRecDepth 100000
set_option linter.unusedVariables false
set_option linter.unusedSimpArgs false
theorem WJ (n : Nat) (f : Nat -> Int) : tab (n + 1) f = tab n f ++ [f n] := by
 unfold tab
 rw [List.range_succ, List.map_append]
 rfl
theorem IX {α : Type} {l : List α} {i : Nat} (h : i < l.length) (d : α) : l.take (i + 1) = l.take i ++ [l.getD i d] := by
 rw [List.take_add_one, List.getElem?_eq_getElem h, List.getD_eq_getElem?_getD, List.getElem?_eq_getElem h]; rfl
theorem aJv {d : List Int} {k s : Int} {Q : (Int × Int × Int × Int × Int × Int) × Bool -> Prop} (h1 : ((d.length : Int) != 4) = true -> Q ((0, (0, (0, (0, (0, 0))))), false))
  (h2 : ((d.length : Int) != 4) = false -> Q ((d.getD 2 0, (d.getD 3 0, (k, (s, (bW (d.getD 2 0) k s 0, bW (d.getD 3 0) k s 0))))), decide (0 < bW (d.getD 2 0) k s 0) && decide (0 < bW (d.getD 3 0) k s 0))) : RE d k s Q := by
 refine ⟨?_⟩
 split
 ·rename_i h; exact h1 h
 ·rename_i h
  have h := Bool.eq_false_iff.2 h
  have : (d.length : Int) = 4 := by simpa using h
  exact ⟨by omega, by omega, ZX (ZX (h2 h))⟩
def pF (H V : Nat) (k s : Int) (P Q t : Nat) : List Int := (dG H V ((t % (P * Q) / Q : Nat) : Int) ((t % (P * Q) % Q : Nat) : Int) k s 0).map fun z => ((t / (P * Q) * H * V : Nat) : Int) + z.1
theorem aFJ {n H V : Nat} {a : Int} (h : n * H * V <= 100000000) (ha : 0 <= a /\ a <= 100000000) : IntKind.i64.wrap (IntKind.i64.wrap (IntKind.i64.wrap ((n : Int) * (H : Int)) * (V : Int)) + a) = ((n * H * V : Nat) : Int) + a \/ V = 0 := by
 by_cases hV : V = 0
 ·exact .inr hV
 ·left
  have h1 : n * H <= n * H * V := Nat.le_mul_of_pos_right _ (by omega)
  rw [U5 (r := n) (n := H) (by omega), U5 (r := n * H) (n := V) (by omega), aA _ (by omega) (by omega)]
theorem aNQ {n H V : Nat} {w : List (Int × Int × Int)} {K0 : List Int -> Prop} (hb : n * H * V <= 100000000) (hV : 1 <= V) (hw : w.length <= 1000000) (hz : ∀ z ∈ w, 0 <= z.1 /\ z.1 <= 100000000) (h : K0 (w.map fun z => ((n * H * V : Nat) : Int) + z.1)) :
  fS n (w.length : Int) H V w K0 (0, []) := by
 refine ⟨?_⟩
 have e0 : ((0 : Int), ([] : List Int)) = (fun i : Nat => ((i : Int), (w.take i).map fun z => ((n * H * V : Nat) : Int) + z.1)) 0 := by simp
 rw [e0]
 refine Loop.range (B := cT n (w.length : Int) H V w K0) w.length (fun i : Nat => ((i : Int), (w.take i).map fun z => ((n * H * V : Nat) : Int) + z.1)) (fun _ => True) trivial ?_ ?_
 ·intro i hi _ X hX
  have hX := hX trivial
  unfold cT
  rw [if_pos (decide_eq_true (show (i : Int) < (w.length : Int) by omega))]
  dsimp only at hX ⊢
  have hm := hz (w.getD i (0, 0, 0)) (by rw [List.getD_eq_getElem?_getD, List.getElem?_eq_getElem hi]; exact List.getElem_mem hi)
  refine ⟨by omega, ?_⟩
  rw [Int.toNat_natCast]
  rcases aFJ hb hm with e | e
  ·rw [e, aA ((i : Int) + 1) (by omega) (by omega)]
   refine ⟨by simp; omega, ?_⟩
   rw [IX hi (0, 0, 0), List.map_append] at hX
   exact hX
  ·omega
 ·intro _ X
  unfold cT
  rw [if_neg (by simp)]
  simpa using h
def jY (X : List Int) (b : Int) (l : List Int) : Int := l.foldl (fun b a => if decide (X.getD b.toNat 0 < X.getD a.toNat 0) = true then a else b) b
def AS (X l : List Int) : Int := jY X (l.getD 0 0) l
theorem LT (X : List Int) : ∀ (l : List Int) (b : Int), jY X b l = b \/ jY X b l ∈ l
  | [], b => .inl rfl
  | a :: l, b => by
    unfold jY
    rw [List.foldl_cons]
    by_cases h : decide (X.getD b.toNat 0 < X.getD a.toNat 0) = true
    · rw [if_pos h]
      rcases LT X l a with e | e
      · right; unfold jY at e; rw [e]; exact List.mem_cons_self
      · right; exact List.mem_cons_of_mem _ e
    · rw [if_neg h]
      rcases LT X l b with e | e
      · left; exact e
      · right; exact List.mem_cons_of_mem _ e
theorem YS {X l : List Int} (h : l ≠ []) : AS X l ∈ l := by
  unfold AS
  cases l with
  | nil => exact absurd rfl h
  | cons a l =>
    rcases LT X (a :: l) ((a :: l).getD 0 0) with e | e
    · rw [e]; simp
    · exact e
theorem aNV {X l : List Int} {K0 : Int -> Prop} (hl : l ≠ []) (hn : l.length <= 1000000) (hr : ∀ a ∈ l, 0 <= a /\ a < (X.length : Int)) (h : K0 (AS X l)) : cK (l.length : Int) X l K0 (l.getD 0 0, 0) := by
 refine ⟨?_⟩
 have e0 : (l.getD 0 0, (0 : Int)) = (fun i : Nat => (jY X (l.getD 0 0) (l.take i), (i : Int))) 0 := by simp [jY]
 rw [e0]
 have hmem : ∀ i, 0 <= jY X (l.getD 0 0) (l.take i) /\ jY X (l.getD 0 0) (l.take i) < (X.length : Int) := by
  intro i
  rcases LT X (l.take i) (l.getD 0 0) with e | e
  ·rw [e]
   refine hr _ ?_
   cases l with
   | nil => exact absurd rfl hl
   | cons a l => simp
  ·exact hr _ (List.mem_of_mem_take e)
 refine Loop.range (B := bH (l.length : Int) X l K0) l.length (fun i : Nat => (jY X (l.getD 0 0) (l.take i), (i : Int))) (fun _ => True) trivial ?_ ?_
 ·intro i hi _ Y hY
  have hY := hY trivial
  unfold bH
  rw [if_pos (decide_eq_true (show (i : Int) < (l.length : Int) by omega))]
  dsimp only at hY ⊢
  have hm := hr (l.getD i 0) (C8 hi)
  refine ⟨by omega, ?_⟩
  rw [Int.toNat_natCast]
  refine ⟨hm, hmem i, ?_⟩
  have e1 : jY X (l.getD 0 0) (l.take (i + 1)) = if decide (X.getD (jY X (l.getD 0 0) (l.take i)).toNat 0 < X.getD (l.getD i 0).toNat 0) = true then l.getD i 0 else jY X (l.getD 0 0) (l.take i) := by
   rw [IX hi 0]
   unfold jY
   rw [List.foldl_append]
   rfl
  rw [e1] at hY
  by_cases hc : decide (X.getD (jY X (l.getD 0 0) (l.take i)).toNat 0 < X.getD (l.getD i 0).toNat 0) = true
  ·rw [if_pos hc] at hY ⊢
   refine ⟨?_⟩
   rw [aA ((i : Int) + 1) (by omega) (by omega)]
   exact hY
  ·rw [if_neg hc] at hY ⊢
   refine ⟨?_⟩
   rw [aA ((i : Int) + 1) (by omega) (by omega)]
   exact hY
 ·intro _ Y
  unfold bH
  rw [if_neg (by simp)]
  have : jY X (l.getD 0 0) (l.take l.length) = AS X l := by rw [List.take_length]; rfl
  dsimp only
  rw [this]; exact h
structure PoolIn (N H V P Q : Nat) (k s : Int) (X : List Int) : Prop where
 hx : X.length = N * (H * V)
 bx : N * (H * V) <= 8192
 hH : 1 <= H /\ H <= 16
 hV : 1 <= V /\ V <= 16
 hk : 1 <= k /\ k <= 5
 hs : 1 <= s /\ s <= 4
 hP : bW H k s 0 = P
 hQ : bW V k s 0 = Q
 p1 : 1 <= P
 q1 : 1 <= Q
theorem PoolIn.le {N H V P Q : Nat} {k s : Int} {X : List Int} (g : PoolIn N H V P Q k s X) : P <= 25 /\ Q <= 25 /\ N <= 8192 := by
 obtain ⟨P', e1, h1⟩ := EI (n := H) (k := k) (s := s) (p := 0)
 obtain ⟨Q', e2, h2⟩ := EI (n := V) (k := k) (s := s) (p := 0)
 have := g.hP
 have := g.hQ
 have h3 := g.bx
 have h4 := Nat.mul_le_mul (Nat.mul_le_mul (Nat.le_refl N) g.hH.1) g.hV.1
 rw [Nat.mul_assoc, Nat.mul_assoc] at h4
 have h5 : N * H * V = N * (H * V) := Nat.mul_assoc _ _ _
 omega
theorem RW {n : Nat} {k s r : Int} {P : Nat} (h : bW n k s 0 = P) (h1 : 1 <= P) (hr : 0 <= r /\ r <= P - 1) : 0 <= s * r /\ s * r <= n - k := by
 obtain ⟨a, b, c, d, e, f⟩ := yF (n := (n : Int)) (k := k) (s := s) (p := 0) (by omega)
 have h2 : (P : Int) - 1 = (n + 2 * 0 - k) / s := by omega
 have h3 : s * ((n + 2 * 0 - k) / s) <= n + 2 * 0 - k := Int.mul_ediv_self_le (by omega)
 have h4 : s * r <= s * ((P : Int) - 1) := Int.mul_le_mul_of_nonneg_left hr.2 (by omega)
 rw [h2] at h4
 exact ⟨Int.mul_nonneg (by omega) hr.1, by omega⟩
theorem aLa {H V P Q : Nat} {k s r c : Int} (hP : bW H k s 0 = P) (hQ : bW V k s 0 = Q) (p1 : 1 <= P) (q1 : 1 <= Q) (hr : 0 <= r /\ r <= P - 1) (hc : 0 <= c /\ c <= Q - 1) : dG H V r c k s 0 ≠ [] := by
 obtain ⟨a, b, _⟩ := yF (n := (H : Int)) (k := k) (s := s) (p := 0) (by omega)
 obtain ⟨a', _⟩ := yF (n := (V : Int)) (k := k) (s := s) (p := 0) (by omega)
 have h1 := RW hP p1 hr
 have h2 := RW hQ q1 hc
 have hnw : aEo H V r c k s 0 = false := by
  unfold aEo inP
  rw [hP, hQ]
  simp only [Bool.or_eq_false_iff, decide_eq_false_iff_not, Bool.not_eq_false', Bool.and_eq_true, decide_eq_true_eq]
  omega
 unfold dG
 rw [if_neg (by rw [hnw]; simp)]
 have hm : (((s * r - 0 + ((0 : Nat) : Int)) * V + (s * c - 0 + ((0 : Nat) : Int)), ((0 : Nat) : Int), ((0 : Nat) : Int)) : Int × Int × Int) ∈ RZ H V (s * r - 0) (s * c - 0) k.toNat k.toNat := by
  unfold RZ n7 uT
  refine List.mem_flatMap.2 ⟨0, List.mem_range.2 (by omega), List.mem_flatMap.2 ⟨0, List.mem_range.2 (by omega), ?_⟩⟩
  rw [if_pos (by unfold inP; simp only [Bool.and_eq_true, decide_eq_true_eq]; omega)]
  exact List.mem_singleton.2 rfl
 intro e
 rw [e] at hm
 cases hm
section
variable {N H V P Q : Nat} {k s : Int} {X : List Int}
theorem PoolIn.cell (g : PoolIn N H V P Q k s X) {n i : Nat} (hn : n < N) (hi : i < P * Q) :
  (i / Q < P /\ i % Q < Q) /\ (dG H V ((i / Q : Nat) : Int) ((i % Q : Nat) : Int) k s 0).length <= 25 /\ (∀ z ∈ dG H V ((i / Q : Nat) : Int) ((i % Q : Nat) : Int) k s 0, 0 <= z.1 /\ z.1 < (H * V : Nat)) /\ dG H V ((i / Q : Nat) : Int) ((i % Q : Nat) : Int) k s 0 ≠ [] /\
   pF H V k s P Q (n * (P * Q) + i) = (dG H V ((i / Q : Nat) : Int) ((i % Q : Nat) : Int) k s 0).map fun z => ((n * H * V : Nat) : Int) + z.1 := by
 obtain ⟨l1, l2, l3⟩ := g.le
 have q1 := g.q1
 have p1 := g.p1
 have hk := g.hk
 have h1 : i / Q < P := Nat.div_lt_of_lt_mul (by rw [Nat.mul_comm]; exact hi)
 have h2 : i % Q < Q := Nat.mod_lt _ (by omega)
 obtain ⟨K, hK⟩ : ∃ K : Nat, k = K := ⟨k.toNat, by omega⟩
 subst hK
 refine ⟨⟨h1, h2⟩, ?_, ?_, ?_, ?_⟩
 ·have := QE (rows := H) (cols := V) (r := ((i / Q : Nat) : Int)) (c := ((i % Q : Nat) : Int)) (s := s) (p := 0) (K := K)
  have : K * K <= 5 * 5 := Nat.mul_le_mul (by omega) (by omega)
  omega
 ·intro z hz
  obtain ⟨a, r, c, rfl, ha, _⟩ := TG z hz
  exact ⟨by dsimp only; omega, by dsimp only; omega⟩
 ·exact aLa g.hP g.hQ p1 q1 ⟨Int.natCast_nonneg _, by generalize i / Q = y at *; omega⟩ ⟨Int.natCast_nonneg _, by generalize i % Q = y at *; omega⟩
 ·unfold pF
  rw [GF hi, GO hi]
theorem PoolIn.addr (g : PoolIn N H V P Q k s X) {n i : Nat} (hn : n < N) (hi : i < P * Q) : ∀ a ∈ pF H V k s P Q (n * (P * Q) + i), 0 <= a /\ a < (X.length : Int) := by
 obtain ⟨_, _, h3, _, h5⟩ := g.cell hn hi
 rw [h5]
 intro a ha
 obtain ⟨z, hz, rfl⟩ := List.mem_map.1 ha
 have := h3 z hz
 have h6 := l0 (r := n) (R := N) (n := H * V) (i := z.1.toNat) hn (by omega)
 have h7 : n * H * V = n * (H * V) := Nat.mul_assoc _ _ _
 rw [g.hx]
 omega
theorem aMx (g : PoolIn N H V P Q k s X) {n : Nat} (hn : n < N) {K0 : List Int × List Int -> Prop} {F : Nat -> Int} (hF : F = fun t => AS X (pF H V k s P Q t))
  (h : K0 ((tab (n * (P * Q) + P * Q) F).map (fun a => X.getD a.toNat 0), tab (n * (P * Q) + P * Q) F)) :
  fO n ((P * Q : Nat) : Int) X H V k s Q K0 (0, (tab (n * (P * Q)) F).map (fun a => X.getD a.toNat 0), tab (n * (P * Q)) F) := by
 obtain ⟨l1, l2, l3⟩ := g.le
 have q1 := g.q1
 have hPQ : P * Q <= 25 * 25 := Nat.mul_le_mul l1 l2
 have hNN : n * (P * Q) <= 8192 * (25 * 25) := Nat.mul_le_mul (by omega) hPQ
 have hx := g.hx
 have bx := g.bx
 refine ⟨?_⟩
 have e0 : ((0 : Int), (tab (n * (P * Q)) F).map (fun a => X.getD a.toNat 0), tab (n * (P * Q)) F) = (fun i : Nat => ((i : Int), (tab (n * (P * Q) + i) F).map (fun a => X.getD a.toNat 0), tab (n * (P * Q) + i) F)) 0 := rfl
 rw [e0]
 refine Loop.range (B := cX n ((P * Q : Nat) : Int) X H V k s Q K0) (P * Q) (fun i : Nat => ((i : Int), (tab (n * (P * Q) + i) F).map (fun a => X.getD a.toNat 0), tab (n * (P * Q) + i) F)) (fun _ => True) trivial ?_ ?_
 ·intro i hi _ Y hY
  have hY := hY trivial
  obtain ⟨⟨c1, c2⟩, c3, c4, c5, c6⟩ := g.cell hn hi
  have c7 := g.addr hn hi
  unfold cX
  rw [if_pos (decide_eq_true (show (i : Int) < ((P * Q : Nat) : Int) by omega))]
  dsimp only at hY ⊢
  refine ⟨by omega, by omega, ?_⟩
  have e1 : IntKind.i64.wrap ((i : Int).tdiv (Q : Int)) = ((i / Q : Nat) : Int) := by
   rw [<- Int.ofNat_tdiv]; exact aA _ (by have := Int.natCast_nonneg (i / Q); generalize i / Q = y at *; omega) (by have := Nat.div_le_self i Q; generalize i / Q = y at *; omega)
  have e2 : (i : Int).tmod (Q : Int) = ((i % Q : Nat) : Int) := (Int.ofNat_tmod _ _).symm
  rw [e1, e2]
  refine aBD ?_
  have hb : n * H * V <= 100000000 := by
   have h7 : n * H * V = n * (H * V) := Nat.mul_assoc _ _ _
   have := Nat.mul_le_mul_right (H * V) (Nat.le_of_lt hn)
   omega
  refine aNQ hb g.hV.1 (by omega) (fun z hz => by
   have := c4 z hz
   have h8 : H * V <= 16 * 16 := Nat.mul_le_mul g.hH.2 g.hV.2
   omega) ?_
  rw [<- c6]
  have hne : pF H V k s P Q (n * (P * Q) + i) ≠ [] := by rw [c6]; simpa using c5
  have hlen : (pF H V k s P Q (n * (P * Q) + i)).length <= 25 := by rw [c6]; simpa using c3
  have hpos : 0 < (pF H V k s P Q (n * (P * Q) + i)).length := List.length_pos_iff.2 hne
  refine ⟨by omega, ?_⟩
  refine aNV hne (by omega) c7 ?_
  have hb := c7 _ (YS (X := X) hne)
  refine ⟨hb, by simp; omega, by simp; omega, ?_⟩
  rw [aA ((i : Int) + 1) (by omega) (by omega)]
  rw [show n * (P * Q) + (i + 1) = n * (P * Q) + i + 1 by omega, WJ, List.map_append] at hY
  have eF : F (n * (P * Q) + i) = AS X (pF H V k s P Q (n * (P * Q) + i)) := by rw [hF]
  rw [eF] at hY
  exact hY
 ·intro _ Y
  unfold cX
  rw [if_neg (by simp)]
  exact h
theorem aMQ (g : PoolIn N H V P Q k s X) {K0 : List Int × List Int -> Prop} {F : Nat -> Int} (hF : F = fun t => AS X (pF H V k s P Q t))
  (h : K0 ((tab (N * (P * Q)) F).map (fun a => X.getD a.toNat 0), tab (N * (P * Q)) F)) :
  fR (N : Int) X H V k s P Q K0 (0, [], []) := by
 obtain ⟨l1, l2, l3⟩ := g.le
 refine ⟨?_⟩
 have e0 : ((0 : Int), ([] : List Int), ([] : List Int)) = (fun n : Nat => ((n : Int), (tab (n * (P * Q)) F).map (fun a => X.getD a.toNat 0), tab (n * (P * Q)) F)) 0 := by simp [tab]
 rw [e0]
 refine Loop.range (B := cS (N : Int) X H V k s P Q K0) N (fun n : Nat => ((n : Int), (tab (n * (P * Q)) F).map (fun a => X.getD a.toNat 0), tab (n * (P * Q)) F)) (fun _ => True) trivial ?_ ?_
 ·intro n hn _ Y hY
  have hY := hY trivial
  unfold cS
  rw [if_pos (decide_eq_true (show (n : Int) < (N : Int) by omega))]
  dsimp only at hY ⊢
  have hPQ : P * Q <= 25 * 25 := Nat.mul_le_mul l1 l2
  rw [U5 (r := P) (n := Q) (by omega)]
  refine aMx g hn hF ?_
  rw [aA ((n : Int) + 1) (by omega) (by omega)]
  rw [Nat.add_mul, Nat.one_mul] at hY
  exact hY
 ·intro _ Y
  unfold cS
  rw [if_neg (by simp)]
  exact h
end
def plE (x : T3) (k s : Int) : Int :=
 if aW x = true then (if ((x.1.length : Int) != 4) = true then 2 else if (decide (0 < bW (x.1.getD 2 0) k s 0) && decide (0 < bW (x.1.getD 3 0) k s 0)) = true then 0 else 2) else 1
def plD (x : T3) (k s : Int) : List Int := [x.1.getD 0 0, x.1.getD 1 0, bW (x.1.getD 2 0) k s 0, bW (x.1.getD 3 0) k s 0]
def plN (x : T3) (k s : Int) : Nat := (x.1.getD 0 0 * x.1.getD 1 0).toNat * ((bW (x.1.getD 2 0) k s 0).toNat * (bW (x.1.getD 3 0) k s 0).toNat)
def plA (x : T3) (k s : Int) (t : Nat) : List Int := pF (x.1.getD 2 0).toNat (x.1.getD 3 0).toNat k s (bW (x.1.getD 2 0) k s 0).toNat (bW (x.1.getD 3 0) k s 0).toNat t
def ZQ (x : T3) (k s : Int) : List Int := tab (plN x k s) fun t => AS x.2.2 (plA x k s t)
def VP (x : T3) (k s : Int) : T3 × List Int × Int :=
 if (plE x k s != 0) = true then (Z3, [], plE x k s) else ((plD x k s, (x.2.1, (ZQ x k s).map fun a => x.2.2.getD a.toNat 0)), ZQ x k s, 0)
theorem aIU {x : T3} {k s : Int} (h : plE x k s = 0) : ∃ N H V P Q n m : Nat, x.1 = [(n : Int), (m : Int), (H : Int), (V : Int)] /\ N = n * m /\ PoolIn N H V P Q k s x.2.2 /\ aW x = true /\ (1 <= n /\ n <= 4096 /\ 1 <= m /\ m <= 4096) := by
 unfold plE at h
 split at h
 case isFalse => exact absurd h (by decide)
 rename_i hm
 split at h
 case isTrue => exact absurd h (by decide)
 rename_i hl
 split at h
 case isFalse => exact absurd h (by decide)
 rename_i hpq
 have hl : (x.1.length : Int) = 4 := by simpa using hl
 simp only [Bool.and_eq_true, decide_eq_true_eq] at hpq
 obtain ⟨n, m, H, V, e, h1, h2, h3, h4, h5, h6, _⟩ := aMT hm hl
 rw [e] at hpq
 simp only [List.getD_cons_succ, List.getD_cons_zero] at hpq
 obtain ⟨P, eP, _⟩ := EI (n := (H : Int)) (k := k) (s := s) (p := 0)
 obtain ⟨Q, eQ, _⟩ := EI (n := (V : Int)) (k := k) (s := s) (p := 0)
 obtain ⟨a1, a2, a3, _⟩ := yF hpq.1
 obtain ⟨b1, _⟩ := yF hpq.2
 obtain ⟨_, hd, _, _⟩ := RM (dY.1 hm).1
 rw [e] at hd
 have hn := hd n (by simp)
 have hmm := hd m (by simp)
 exact ⟨n * m, H, V, P, Q, n, m, e, rfl, ⟨by rw [h6, Nat.mul_assoc], by rw [<- Nat.mul_assoc]; exact h5, by omega, by omega, a2, a3, eP, eQ, by omega, by omega⟩, hm, by omega⟩
theorem aOx {x : T3} {k s : Int} {Q : T3 × List Int × Int -> Prop} (h : Q (VP x k s)) : aCg x k s Q := by
  refine ⟨?_⟩
  unfold VP at h
  refine tD ?_
  cases hm : aW (x.1, x.2.1, x.2.2) with
  | false =>
    have e : plE x k s = 1 := by unfold plE; rw [if_neg (by rw [show x = (x.1, x.2.1, x.2.2) from rfl, hm]; simp)]
    rw [e] at h
    exact h
  | true =>
    rw [if_neg (by simp)]
    refine aJv (fun hl => ?_) (fun hl => ?_)
    · have e : plE x k s = 2 := by unfold plE; rw [if_pos hm, if_pos hl]
      rw [e] at h
      exact h
    · cases hpq : (decide (0 < bW (x.1.getD 2 0) k s 0) && decide (0 < bW (x.1.getD 3 0) k s 0)) with
      | false =>
        have e : plE x k s = 2 := by unfold plE; rw [if_pos hm, if_neg (by rw [hl]; simp), if_neg (by rw [hpq]; simp)]
        rw [e] at h
        exact h
      | true =>
        have e : plE x k s = 0 := by unfold plE; rw [if_pos hm, if_neg (by rw [hl]; simp), if_pos hpq]
        rw [e, if_neg (by simp)] at h
        rw [if_neg (by simp)]
        obtain ⟨N, H, V, P, Q, n, m, ex, eN, g, _, hb⟩ := aIU e
        unfold ZQ plN plA plD at h
        dsimp only
        rw [ex] at h ⊢
        simp only [List.getD_cons_succ, List.getD_cons_zero] at h ⊢
        rw [g.hP, g.hQ] at h ⊢
        have en : ((n : Int) * (m : Int)).toNat = N := by rw [eN, <- Int.natCast_mul]; exact Int.toNat_natCast _
        rw [en] at h
        simp only [Int.toNat_natCast] at h
        have hN : n * m <= 8192 := by rw [<- eN]; exact g.le.2.2
        rw [U5 (r := n) (n := m) (by omega), <- eN]
        refine ⟨by simp, by simp, by simp, by simp, aMQ g rfl ?_⟩
        exact h
theorem aNT {n H V : Nat} {w : List (Int × Int × Int)} {K0 : List Int -> Prop} (hb : n * H * V <= 100000000) (hV : 1 <= V) (hw : w.length <= 1000000) (hz : ∀ z ∈ w, 0 <= z.1 /\ z.1 <= 100000000) (h : K0 (w.map fun z => ((n * H * V : Nat) : Int) + z.1)) :
  fW n (w.length : Int) H V w K0 (0, []) := by
 refine ⟨?_⟩
 have e0 : ((0 : Int), ([] : List Int)) = (fun i : Nat => ((i : Int), (w.take i).map fun z => ((n * H * V : Nat) : Int) + z.1)) 0 := by simp
 rw [e0]
 refine Loop.range (B := cR n (w.length : Int) H V w K0) w.length (fun i : Nat => ((i : Int), (w.take i).map fun z => ((n * H * V : Nat) : Int) + z.1)) (fun _ => True) trivial ?_ ?_
 ·intro i hi _ X hX
  have hX := hX trivial
  unfold cR
  rw [if_pos (decide_eq_true (show (i : Int) < (w.length : Int) by omega))]
  dsimp only at hX ⊢
  have hm := hz (w.getD i (0, 0, 0)) (by rw [List.getD_eq_getElem?_getD, List.getElem?_eq_getElem hi]; exact List.getElem_mem hi)
  refine ⟨by omega, ?_⟩
  rw [Int.toNat_natCast]
  rcases aFJ hb hm with e | e
  ·rw [e, aA ((i : Int) + 1) (by omega) (by omega)]
   refine ⟨by simp; omega, ?_⟩
   rw [IX hi (0, 0, 0), List.map_append] at hX
   exact hX
  ·omega
 ·intro _ X
  unfold cR
  rw [if_neg (by simp)]
  simpa using h
def aCl (X l : List Int) : Int := IntKind.i32.wrap (WA l fun a => X.getD a.toNat 0)
theorem aMj {X l : List Int} {K0 : Int -> Prop} (hn : l.length <= 1000000) (hr : ∀ a ∈ l, 0 <= a /\ a < (X.length : Int)) (h : K0 (aCl X l)) : cO (l.length : Int) X l K0 (0, 0) := by
 refine ⟨?_⟩
 have e0 : ((0 : Int), (0 : Int)) = (fun i : Nat => (IntKind.i32.wrap (cE (fun j => X.getD (l.getD j 0).toNat 0) i), (i : Int))) 0 := by simp [cE, IntKind.wrap, IntKind.bits, IntKind.signed]
 rw [e0]
 refine Loop.range (B := bI (l.length : Int) X l K0) l.length (fun i : Nat => (IntKind.i32.wrap (cE (fun j => X.getD (l.getD j 0).toNat 0) i), (i : Int))) (fun _ => True) trivial ?_ ?_
 ·intro i hi _ Y hY
  have hY := hY trivial
  unfold bI
  rw [if_pos (decide_eq_true (show (i : Int) < (l.length : Int) by omega))]
  dsimp only at hY ⊢
  have hm := hr (l.getD i 0) (C8 hi)
  refine ⟨by omega, ?_⟩
  rw [Int.toNat_natCast]
  refine ⟨hm, ?_⟩
  rw [aEa, aEd, aA ((i : Int) + 1) (by omega) (by omega)]
  exact hY
 ·intro _ Y
  unfold bI
  rw [if_neg (by simp)]
  unfold aCl at h
  rw [RK l _ 0] at h
  exact h
section
variable {N H V P Q : Nat} {k s : Int} {X : List Int}
theorem aMz (g : PoolIn N H V P Q k s X) {n : Nat} (hn : n < N) {K0 : List Int -> Prop} {F : Nat -> Int} (hF : F = fun t => aCl X (pF H V k s P Q t)) (h : K0 (tab (n * (P * Q) + P * Q) F)) :
  fP n ((P * Q : Nat) : Int) X H V k s Q K0 (0, tab (n * (P * Q)) F) := by
 obtain ⟨l1, l2, l3⟩ := g.le
 have q1 := g.q1
 have hPQ : P * Q <= 25 * 25 := Nat.mul_le_mul l1 l2
 have hNN : n * (P * Q) <= 8192 * (25 * 25) := Nat.mul_le_mul (by omega) hPQ
 have hx := g.hx
 have bx := g.bx
 refine ⟨?_⟩
 have e0 : ((0 : Int), tab (n * (P * Q)) F) = (fun i : Nat => ((i : Int), tab (n * (P * Q) + i) F)) 0 := rfl
 rw [e0]
 refine Loop.range (B := cW n ((P * Q : Nat) : Int) X H V k s Q K0) (P * Q) (fun i : Nat => ((i : Int), tab (n * (P * Q) + i) F)) (fun _ => True) trivial ?_ ?_
 ·intro i hi _ Y hY
  have hY := hY trivial
  obtain ⟨⟨c1, c2⟩, c3, c4, c5, c6⟩ := g.cell hn hi
  have c7 := g.addr hn hi
  unfold cW
  rw [if_pos (decide_eq_true (show (i : Int) < ((P * Q : Nat) : Int) by omega))]
  dsimp only at hY ⊢
  refine ⟨by omega, by omega, ?_⟩
  have e1 : IntKind.i64.wrap ((i : Int).tdiv (Q : Int)) = ((i / Q : Nat) : Int) := by
   rw [<- Int.ofNat_tdiv]; exact aA _ (by have := Int.natCast_nonneg (i / Q); generalize i / Q = y at *; omega) (by have := Nat.div_le_self i Q; generalize i / Q = y at *; omega)
  have e2 : (i : Int).tmod (Q : Int) = ((i % Q : Nat) : Int) := (Int.ofNat_tmod _ _).symm
  rw [e1, e2]
  refine aBD ?_
  have hb : n * H * V <= 100000000 := by
   have h7 : n * H * V = n * (H * V) := Nat.mul_assoc _ _ _
   have := Nat.mul_le_mul_right (H * V) (Nat.le_of_lt hn)
   omega
  refine aNT hb g.hV.1 (by omega) (fun z hz => by
   have := c4 z hz
   have h8 : H * V <= 16 * 16 := Nat.mul_le_mul g.hH.2 g.hV.2
   omega) ?_
  rw [<- c6]
  have hlen : (pF H V k s P Q (n * (P * Q) + i)).length <= 25 := by rw [c6]; simpa using c3
  refine aMj (by omega) c7 ⟨by simp; omega, ?_⟩
  rw [aA ((i : Int) + 1) (by omega) (by omega)]
  rw [show n * (P * Q) + (i + 1) = n * (P * Q) + i + 1 by omega, WJ] at hY
  have eF : F (n * (P * Q) + i) = aCl X (pF H V k s P Q (n * (P * Q) + i)) := by rw [hF]
  rw [eF] at hY
  exact hY
 ·intro _ Y
  unfold cW
  rw [if_neg (by simp)]
  exact h
theorem aLI (g : PoolIn N H V P Q k s X) {K0 : List Int -> Prop} {F : Nat -> Int} (hF : F = fun t => aCl X (pF H V k s P Q t)) (h : K0 (tab (N * (P * Q)) F)) : fV (N : Int) X H V k s P Q K0 (0, []) := by
 obtain ⟨l1, l2, l3⟩ := g.le
 refine ⟨?_⟩
 have e0 : ((0 : Int), ([] : List Int)) = (fun n : Nat => ((n : Int), tab (n * (P * Q)) F)) 0 := by simp [tab]
 rw [e0]
 refine Loop.range (B := cV (N : Int) X H V k s P Q K0) N (fun n : Nat => ((n : Int), tab (n * (P * Q)) F)) (fun _ => True) trivial ?_ ?_
 ·intro n hn _ Y hY
  have hY := hY trivial
  unfold cV
  rw [if_pos (decide_eq_true (show (n : Int) < (N : Int) by omega))]
  dsimp only at hY ⊢
  have hPQ : P * Q <= 25 * 25 := Nat.mul_le_mul l1 l2
  rw [U5 (r := P) (n := Q) (by omega)]
  refine aMz g hn hF ?_
  rw [aA ((n : Int) + 1) (by omega) (by omega)]
  rw [Nat.add_mul, Nat.one_mul] at hY
  exact hY
 ·intro _ Y
  unfold cV
  rw [if_neg (by simp)]
  exact h
end
def aEf (k : Int) : Int := IntKind.i64.wrap ((IntKind.i64.wrap (k.tdiv 2)) * 2)
def aJW (x : T3) (k s : Int) : T3 × Int :=
 if (plE x k s != 0) = true then (Z3, plE x k s) else ((plD x k s, (IntKind.i64.wrap (x.2.1 - aEf k), tab (plN x k s) fun t => aCl x.2.2 (plA x k s t))), 0)
theorem aPB {x : T3} {k s : Int} {Q : T3 × Int -> Prop} (h : Q (aJW x k s)) : aB0 x k s Q := by
  refine ⟨?_⟩
  unfold aJW at h
  refine tD ?_
  cases hm : aW (x.1, x.2.1, x.2.2) with
  | false =>
    have e : plE x k s = 1 := by unfold plE; rw [if_neg (by rw [show x = (x.1, x.2.1, x.2.2) from rfl, hm]; simp)]
    rw [e] at h
    exact h
  | true =>
    rw [if_neg (by simp)]
    refine aJv (fun hl => ?_) (fun hl => ?_)
    · have e : plE x k s = 2 := by unfold plE; rw [if_pos hm, if_pos hl]
      rw [e] at h
      exact h
    · cases hpq : (decide (0 < bW (x.1.getD 2 0) k s 0) && decide (0 < bW (x.1.getD 3 0) k s 0)) with
      | false =>
        have e : plE x k s = 2 := by unfold plE; rw [if_pos hm, if_neg (by rw [hl]; simp), if_neg (by rw [hpq]; simp)]
        rw [e] at h
        exact h
      | true =>
        have e : plE x k s = 0 := by unfold plE; rw [if_pos hm, if_neg (by rw [hl]; simp), if_pos hpq]
        rw [e, if_neg (by simp)] at h
        rw [if_neg (by simp)]
        obtain ⟨N, H, V, P, Q, n, m, ex, eN, g, _, hb⟩ := aIU e
        unfold plN plA plD at h
        dsimp only
        rw [ex] at h ⊢
        simp only [List.getD_cons_succ, List.getD_cons_zero] at h ⊢
        rw [g.hP, g.hQ] at h ⊢
        have en : ((n : Int) * (m : Int)).toNat = N := by rw [eN, <- Int.natCast_mul]; exact Int.toNat_natCast _
        rw [en] at h
        simp only [Int.toNat_natCast] at h
        have hN : n * m <= 8192 := by rw [<- eN]; exact g.le.2.2
        rw [U5 (r := n) (n := m) (by omega), <- eN]
        refine ⟨by simp, by simp, ⟨by decide, ?_⟩⟩
        refine ⟨by simp, by simp, aLI g rfl ?_⟩
        exact h
end Go.Proofs.YtcfpfefadlnmcaaGreat

namespace Go.Proofs.YtcfpfefadlnmcaaGreat
open Go.Mach
set_option maxRecDepth 100000
set_option linter.unusedVariables false
set_option linter.unusedSimpArgs false
def Prm8 (p : Prm) : Prop := All8 p.1.2.2 /\ All8 p.2.2.2.2
def Ten8 (l : List T3) : Prop := ∀ t ∈ l, All8 t.2.2
theorem Ten8.at_ {l : List T3} (h : Ten8 l) (i : Nat) : All8 (l.getD i Z3).2.2 := by
 rw [List.getD_eq_getElem?_getD]
 cases e : l[i]? with
 | none => intro y hy; cases hy
 | some t => exact h t (List.mem_of_getElem? e)
theorem Prm8.at_ {l : List Prm} (h : ∀ p ∈ l, Prm8 p) (i : Nat) : Prm8 (l.getD i rS) := by
 rw [List.getD_eq_getElem?_getD]
 cases e : l[i]? with
 | none => exact ⟨fun y hy => (by cases hy), fun y hy => (by cases hy)⟩
 | some t => exact h t (List.mem_of_getElem? e)
def lY (l : List T3) : T3 := l.getD (l.length - 1) Z3
noncomputable def EN (x : Lay) (p : Prm) (l : List T3) : T3 × Bool × Int :=
 if (x.1 == 1) = true then ((aGt (lY l) p.1 p.2.2).1, true, (aGt (lY l) p.1 p.2.2).2)
 else if (x.1 == 2) = true then ((Q9 (lY l) p.1 p.2.2 x.2.2.2.1 x.2.2.2.2.1).1, true, (Q9 (lY l) p.1 p.2.2 x.2.2.2.1 x.2.2.2.2.1).2)
 else if (x.1 == 4) = true then ((aJW (lY l) x.2.2.1 x.2.2.2.1).1, true, (aJW (lY l) x.2.2.1 x.2.2.2.1).2)
 else if (x.1 == 7) = true then ((addF (lY l) (l.getD x.2.2.2.2.2.1.toNat Z3)).1, true, (addF (lY l) (l.getD x.2.2.2.2.2.1.toNat Z3)).2)
 else (Z3, false, 0)
theorem aFq {l : List T3} (h1 : l ≠ []) (h2 : l.length <= 1000) : IntKind.i64.wrap ((l.length : Int) - 1) = ((l.length - 1 : Nat) : Int) /\ 0 < l.length := by
 have := List.length_pos_iff.2 h1
 exact ⟨by rw [aA _ (by omega) (by omega)]; omega, this⟩
theorem aOV {x : Lay} {p : Prm} {l : List T3} {Q : T3 × Bool × Int -> Prop} (h1 : l ≠ []) (h2 : l.length <= 1000) (h8 : Ten8 l) (hp : Prm8 p) (hx : x.1 = 7 -> 0 <= x.2.2.2.2.2.1 /\ x.2.2.2.2.2.1 < (l.length : Int)) (h : Q (EN x p l)) : LH x p l Q := by
  refine ⟨?_⟩
  obtain ⟨e, hl⟩ := aFq h1 h2
  rw [e]
  simp only [Int.toNat_natCast]
  refine ⟨by omega, ?_⟩
  unfold EN lY at h
  split
  · rename_i e1
    rw [if_pos e1] at h
    exact aNn (h8.at_ _) hp.1 hp.2 h
  · rename_i e1
    rw [if_neg e1] at h
    split
    · rename_i e2
      rw [if_pos e2] at h
      exact aNv (h8.at_ _) hp.1 hp.2 h
    · rename_i e2
      rw [if_neg e2] at h
      split
      · rename_i e4
        rw [if_pos e4] at h
        exact aPB h
      · rename_i e4
        rw [if_neg e4] at h
        split
        · rename_i e7
          rw [if_pos e7] at h
          exact ⟨hx (by simpa using e7), aOn h⟩
        · rename_i e7
          rw [if_neg e7] at h
          exact h
noncomputable def eJ (x : Lay) (p : Prm) (l : List T3) (s t : Int) : T3 × List Int × Int :=
 if ((EN x p l).2.2 != 0) = true then (Z3, [], (EN x p l).2.2)
 else if (EN x p l).2.1 = true then ((pQ (EN x p l).1 8 s t).1, [], (pQ (EN x p l).1 8 s t).2)
 else if (x.1 == 3) = true then VP (lY l) x.2.2.1 x.2.2.2.1
 else if (x.1 == 5) = true then ((II (lY l)).1, [], (II (lY l)).2)
 else ((EP (lY l)).1, [], (EP (lY l)).2)
theorem aAa {x : Lay} {p : Prm} {l : List T3} {s t : Int} {Q : T3 × List Int × Int -> Prop} (h1 : l ≠ []) (h2 : l.length <= 1000) (h8 : Ten8 l) (hp : Prm8 p) (hx : x.1 = 7 -> 0 <= x.2.2.2.2.2.1 /\ x.2.2.2.2.2.1 < (l.length : Int)) (h : Q (eJ x p l s t)) : E8 x p l s t Q := by
  refine ⟨?_⟩
  refine aOV h1 h2 h8 hp hx ?_
  obtain ⟨e, hl⟩ := aFq h1 h2
  rw [e]
  simp only [Int.toNat_natCast]
  unfold eJ lY at h
  split
  · rename_i e0
    rw [if_pos e0] at h; exact h
  · rename_i e0
    rw [if_neg e0] at h
    split
    · rename_i e1
      rw [if_pos e1] at h
      exact aJl h
    · rename_i e1
      rw [if_neg e1] at h
      refine ⟨by omega, ?_⟩
      split
      · rename_i e2
        rw [if_pos e2] at h
        exact aOx h
      · rename_i e2
        rw [if_neg e2] at h
        split
        · rename_i e3
          rw [if_pos e3] at h
          exact aOX ⟨h⟩
        · rename_i e3
          rw [if_neg e3] at h
          exact aMB ⟨h⟩
theorem aH0 (x : Int) : -128 <= IntKind.i8.wrap x /\ IntKind.i8.wrap x <= 127 := by
 simp only [IntKind.wrap, IntKind.bits, IntKind.signed]
 simp
 split <;> omega
theorem aO4 {a : T3} {b s t : Int} : All8 (pQ a b s t).1.2.2 := by
 unfold pQ
 split
 ·intro y hy; cases hy
 split
 ·intro y hy; cases hy
 ·intro y hy
  unfold aCP at hy
  obtain ⟨i, _, rfl⟩ := List.mem_map.1 hy
  exact aH0 _
theorem aPh {x : T3} {k s : Int} (h : All8 x.2.2) : All8 (VP x k s).1.2.2 := by
 unfold VP
 split
 ·intro y hy; cases hy
 ·intro y hy
  obtain ⟨a, _, rfl⟩ := List.mem_map.1 hy
  exact h.at_ _
theorem aOp {x : T3} (h : All8 x.2.2) : All8 (II x).1.2.2 := by
 unfold II
 split
 ·intro y hy
  obtain ⟨a, ha, rfl⟩ := List.mem_map.1 hy
  have := h a ha
  unfold aD
  split <;> omega
 ·intro y hy; cases hy
theorem aPX {x : T3} (h : All8 x.2.2) : All8 (EP x).1.2.2 := by
 unfold EP XJ
 split
 ·split
  ·split
   ·exact h
   ·intro y hy; cases hy
  ·intro y hy; cases hy
 ·intro y hy; cases hy
theorem aMY {x : Lay} {p : Prm} {l : List T3} {s t : Int} (h8 : Ten8 l) : All8 (eJ x p l s t).1.2.2 := by
 unfold eJ
 split
 ·intro y hy; cases hy
 split
 ·exact aO4
 split
 ·exact aPh (h8.at_ _)
 split
 ·exact aOp (h8.at_ _)
 ·exact aPX (h8.at_ _)
abbrev Act := List T3 × List (List Int)
noncomputable def EL (ps : List Prm) (s st : Int) : List Lay -> Nat -> Act -> Act × Int × Int
  | [], _, a => (a, 0, 0)
  | x :: r, i, a =>
    if ((eJ x (ps.getD i rS) a.1 s (EA st ((i : Int) + 1) 0)).2.2 != 0) = true then (([], []), (i : Int) + 1, (eJ x (ps.getD i rS) a.1 s (EA st ((i : Int) + 1) 0)).2.2)
    else EL ps s st r (i + 1) (a.1 ++ [(eJ x (ps.getD i rS) a.1 s (EA st ((i : Int) + 1) 0)).1], a.2 ++ [(eJ x (ps.getD i rS) a.1 s (EA st ((i : Int) + 1) 0)).2.1])
noncomputable def aED (m : Mdl) (ps : List Prm) (x : T3) (s st : Int) : Act × Int × Int :=
 if ((!inP st 0 1000000 || !N3 m ps) || !aW x) = true then (([], []), 0, 1)
 else if (((x.1.length : Int) != 4) || !decide (x.1.drop 1 = inL m)) = true then (([], []), 0, 2)
 else EL ps s st m.2 0 ([x], [[]])
theorem aHK {m : Mdl} {ps : List Prm} (h : N3 m ps = true) : tO m = true /\ ps.length = m.2.length := by
 unfold N3 at h
 simp only [Bool.and_eq_true, beq_iff_eq] at h
 exact ⟨(DL h.1.1).1, by omega⟩
theorem aNX {m : Mdl} {ps : List Prm} {s st : Int} {Q : Act × Int × Int -> Prop} (hm : tO m = true) (hl : ps.length = m.2.length) (hp : ∀ p ∈ ps, Prm8 p) {x : T3} (hx : All8 x.2.2) (h : Q (EL ps s st m.2 0 ([x], [[]]))) :
    CT ps s st m.2 (m.2.length : Int) (fun y => Q ((y.1, y.2), 0, 0)) (fun y => Q (([], []), y.1, y.2)) (0, [x], [[]]) := by
  refine ⟨?_⟩
  obtain ⟨_, ⟨k1, k2⟩, k3⟩ := nT hm
  refine Loop.rangeI (B := fN ps s st m.2 (m.2.length : Int) (fun y => Q ((y.1, y.2), 0, 0)) (fun y => Q (([], []), y.1, y.2))) m.2.length
    (fun i z => z.1 = (i : Int) /\ z.2.1.length = i + 1 /\ z.2.2.length = i + 1 /\ Ten8 z.2.1 /\ Q (EL ps s st (m.2.drop i) i (z.2.1, z.2.2)))
    ⟨rfl, rfl, rfl, (fun t ht => by rw [List.mem_singleton.1 ht]; exact hx), by rw [List.drop_zero]; exact h⟩ ?_ ?_
  · rintro i hi ⟨z1, z2, z3⟩ ⟨rfl, e1, e2, h8, hq⟩ X hX
    unfold fN
    dsimp only at e1 e2 h8 hq ⊢
    rw [if_pos (decide_eq_true (show (i : Int) < (m.2.length : Int) by omega))]
    refine ⟨by omega, by omega, ?_⟩
    rw [aA ((i : Int) + 1) (by omega) (by omega)]
    simp only [Int.toNat_natCast]
    rw [List.drop_eq_getElem_cons hi] at hq
    have eg : m.2.getD i dX = m.2[i] := by rw [List.getD_eq_getElem?_getD, List.getElem?_eq_getElem hi]; rfl
    rw [<- eg] at hq
    refine aKK (aAa (by intro e; rw [e] at e1; cases e1) (by omega) h8 (Prm8.at_ hp i) ?_ ?_)
    · intro h7
      have := KO (k3 i hi) h7
      rw [aA ((i : Int) - 1) (by omega) (by omega)] at this
      have h0 : 0 <= (m.2.getD i dX).2.2.2.2.2.1 := this.1
      have h1 : (m.2.getD i dX).2.2.2.2.2.1 <= (i : Int) - 1 := this.2
      exact ⟨h0, by show (m.2.getD i dX).2.2.2.2.2.1 < _; rw [e1]; omega⟩
    · unfold EL at hq
      by_cases he : ((eJ (m.2.getD i dX) (ps.getD i rS) z2 s (EA st ((i : Int) + 1) 0)).2.2 != 0) = true
      · rw [if_pos he] at hq
        rw [if_pos he]
        exact hq
      · rw [if_neg he] at hq
        rw [if_neg he]
        refine ⟨by simp; omega, by simp; omega, hX _ ⟨rfl, by simp [e1], by simp [e2], ?_, hq⟩⟩
        intro t ht
        rcases List.mem_append.1 ht with ht | ht
        · exact h8 t ht
        · rw [List.mem_singleton.1 ht]
          exact aMY h8
  · rintro ⟨z1, z2, z3⟩ ⟨rfl, e1, e2, h8, hq⟩ X
    unfold fN
    dsimp only at hq ⊢
    rw [if_neg (by simp)]
    rw [List.drop_length] at hq
    exact hq
theorem aPS {m : Mdl} {ps : List Prm} {x : T3} {s st : Int} {Q : Act × Int × Int -> Prop} (hl : m.2.length <= 10000000000000) (hp : ∀ p ∈ ps, Prm8 p) (hx : All8 x.2.2) (h : Q (aED m ps x s st)) : zH m ps x s st Q := by
  refine ⟨?_⟩
  refine aIJ ?_
  unfold aED at h
  refine AX (c := !N3 m ps) (fun _ P hP => aMG hl hP) (fun v e => ?_) rfl
  refine AX (c := !aW x) (fun _ P hP => tD hP) (fun v5 e5 => ?_) rfl
  rw [<- e, <- e5] at h
  cases v5 with
  | true => rw [if_pos rfl] at h ⊢; exact h
  | false =>
    rw [if_neg (by simp)] at h
    rw [if_neg (by simp)]
    have hv : v = false /\ aW x = true := by
      have := e5.symm
      simp only [Bool.or_eq_false_iff, Bool.not_eq_false'] at this
      exact this
    have hmp : N3 m ps = true := by
      have := e.symm
      rw [hv.1] at this
      simp only [Bool.or_eq_false_iff, Bool.not_eq_false'] at this
      exact this.2
    obtain ⟨q1, q2⟩ := dT hv.2
    refine AX (c := !decide (x.1.drop 1 = inL m)) (fun hb P hP => ?_) (fun v8 e8 => ?_) rfl
    · have : (x.1.length : Int) = 4 := by simpa using hb
      refine ⟨⟨(fun e0 => by rw [e0] at this; simp at this), by omega, by omega, by omega⟩, ?_⟩
      have e9 : (x.1.take ((x.1.length : Int)).toNat).drop ((1 : Int)).toNat = x.1.drop 1 := by rw [Int.toNat_natCast, List.take_length]; rfl
      rw [e9]
      exact aCC (by simp; omega) hP
    · rw [<- e8] at h
      cases v8 with
      | true => rw [if_pos rfl] at h ⊢; exact h
      | false =>
        rw [if_neg (by simp)] at h
        rw [if_neg (by simp)]
        refine EY (by omega) (aB8 (by omega) ?_)
        obtain ⟨w1, w2⟩ := aHK hmp
        exact aNX w1 w2 hp hx h
end Go.Proofs.YtcfpfefadlnmcaaGreat

namespace Go.Proofs.YtcfpfefadlnmcaaGreat
open Go.Mach Go.RowKit
set_option maxRecDepth 100000
set_option linter.unusedVariables false
set_option linter.unusedSimpArgs false
theorem aOO {x : Int} (h : (Lit.int IntKind.i8 x).wf = true) : -128 <= x /\ x <= 127 := by
 have := aNy h
 have e1 : IntKind.i8.min = -128 := by decide
 have e2 : IntKind.i8.max = 127 := by decide
 rw [e1, e2] at this
 exact this
theorem aNZ {x n : Int} (h1 : 1 <= x) (h2 : x <= 4096) (h3 : 1 <= n) (h4 : n <= 8192) : (IntKind.i64.wrap ((8192 : Int).tdiv x) < n) ↔ 8192 < n * x := by
 have e : (8192 : Int).tdiv x = 8192 / x := Int.tdiv_eq_ediv_of_nonneg (by omega)
 have h5 : 0 <= (8192 : Int) / x := Int.ediv_nonneg (by omega) (by omega)
 have h6 : (8192 : Int) / x <= 8192 := Int.ediv_le_self _ (by omega)
 rw [e, aA _ (by omega) (by omega), Int.ediv_lt_iff_lt_mul (by omega)]
theorem aEv {acc d : Int} {r : List Int} (h1 : 1 <= acc) (h2 : acc <= 8192) : uI acc (d :: r) = if (decide (d < 1) || decide (4096 < d)) = true then 0 else if 8192 < acc * d then 0 else uI (acc * d) r := by
 by_cases hd : (decide (d < 1) || decide (4096 < d)) = true
 ·rw [if_pos hd]
  unfold uI
  rw [if_pos (by rw [hd]; rfl)]
 ·rw [if_neg hd]
  simp only [Bool.or_eq_true, decide_eq_true_eq, not_or] at hd
  have hb := E4 acc d 8192 4096 (by omega) (by omega) (by omega) (by omega) (by omega)
  have hw : IntKind.i64.wrap (acc * d) = acc * d := aA _ (by omega) (by omega)
  have e1 : decide (d < 1) = false := by simp; omega
  have e2 : decide (4096 < d) = false := by simp; omega
  by_cases h3 : 8192 < acc * d
  ·rw [if_pos h3]
   unfold uI
   rw [hw, if_pos (by simp [h3])]
  ·rw [if_neg h3]
   show (if ((decide (d < 1) || decide (4096 < d)) || decide (8192 < IntKind.i64.wrap (acc * d))) = true then 0 else uI (IntKind.i64.wrap (acc * d)) r) = _
   rw [hw, if_neg (by rw [e1, e2]; simp; omega)]
theorem RJ {l : List Int} {i : Nat} (h : i < l.length) : l.drop i = l.getD i 0 :: l.drop (i + 1) := by
 rw [List.drop_eq_getElem_cons h, List.getD_eq_getElem?_getD, List.getElem?_eq_getElem h]; rfl
theorem aBo {a d : Int} (h1 : 1 <= a) (h2 : 1 <= d) : 1 <= a * d := by
 have := Int.mul_pos (show 0 < a by omega) (show 0 < d by omega)
 omega
theorem qR {l : List Int} {Q : Bool -> Prop} (h : Q (decide (0 < szF l))) : bK l Q := by
  refine ⟨?_⟩
  unfold szF at h
  by_cases e : (decide ((l.length : Int) < 1) || decide (4 < (l.length : Int))) = true
  · rw [if_pos e] at h ⊢; exact h
  · rw [if_neg e] at h ⊢
    have hl : l.length <= 4 := by simp only [Bool.or_eq_true, decide_eq_true_eq, not_or] at e; omega
    obtain ⟨z, hz⟩ : ∃ z, uI 1 l = z := ⟨_, rfl⟩
    rw [hz] at h
    refine ⟨?_⟩
    refine Loop.inv (n := l.length) (fun m s => ∃ i : Nat, i + m = l.length /\ s.2 = (i : Int) /\ 1 <= s.1 /\ s.1 <= 8192 /\ uI s.1 (l.drop i) = z) ⟨0, by omega, rfl, by show 1 <= (1 : Int); omega, by show (1 : Int) <= 8192; omega, hz⟩ ?_
    rintro m ⟨acc, i'⟩ X ⟨i, hi, he, ha, hb, hzz⟩ hX
    simp only at he ha hb hzz
    subst he
    unfold qH
    by_cases hlt : i < l.length
    · rw [RJ hlt, aEv ha hb] at hzz
      rw [if_pos (decide_eq_true (show (i : Int) < (l.length : Int) by omega))]
      dsimp only
      refine ⟨by omega, ?_⟩
      rw [Int.toNat_natCast]
      generalize l.getD i 0 = d at hzz ⊢
      show (if (decide (d < 1) || decide (4096 < d)) = true then _ else _)
      by_cases hd : (decide (d < 1) || decide (4096 < d)) = true
      · rw [if_pos hd] at hzz ⊢
        show (if true = true then _ else _)
        rw [if_pos rfl]
        have : decide (0 < z) = false := by rw [<- hzz]; rfl
        rw [this] at h; exact h
      · rw [if_neg hd] at hzz ⊢
        simp only [Bool.or_eq_true, decide_eq_true_eq, not_or] at hd
        refine ⟨by omega, ?_⟩
        have ht := aNZ (x := d) (n := acc) (by omega) (by omega) ha hb
        show (if (decide (IntKind.i64.wrap ((8192 : Int).tdiv d) < acc)) = true then _ else _)
        by_cases h3 : 8192 < acc * d
        · rw [if_pos h3] at hzz
          rw [if_pos (decide_eq_true (ht.2 h3))]
          have : decide (0 < z) = false := by rw [<- hzz]; rfl
          rw [this] at h; exact h
        · rw [if_neg h3] at hzz
          rw [if_neg (by simp; exact Int.not_lt.1 (fun hh => h3 (ht.1 hh)))]
          have hb2 := E4 acc d 8192 4096 (by omega) (by omega) (by omega) (by omega) (by omega)
          rw [aA (acc * d) (by omega) (by omega), aA ((i : Int) + 1) (by omega) (by omega)]
          exact hX (m - 1) _ (by omega) ⟨i + 1, by omega, rfl, aBo ha (by omega), by show acc * d <= 8192; omega, hzz⟩
    · have hil : i = l.length := by omega
      subst hil
      rw [if_neg (by simp)]
      rw [List.drop_length] at hzz
      unfold uI at hzz
      have : decide (0 < z) = true := by rw [<- hzz]; exact decide_eq_true (by omega)
      rw [this] at h; exact h
theorem RQ {l : List Int} {Q : Int -> Prop} (h : Q (szF l)) : dR l Q := by
  refine ⟨?_⟩
  refine qR ?_
  by_cases hp : 0 < szF l
  · rw [if_neg (by simp [hp])]
    have hp2 := hp
    unfold szF at hp2 h
    split at hp2
    · omega
    · rename_i e
      rw [if_neg e] at h
      have hl : l.length <= 4 := by simp only [Bool.or_eq_true, decide_eq_true_eq, not_or] at e; omega
      obtain ⟨z, hz⟩ : ∃ z, uI 1 l = z := ⟨_, rfl⟩
      rw [hz] at h hp2
      refine ⟨?_⟩
      refine Loop.inv (n := l.length) (fun m s => ∃ i : Nat, i + m = l.length /\ s.2 = (i : Int) /\ 1 <= s.1 /\ s.1 <= 8192 /\ uI s.1 (l.drop i) = z) ⟨0, by omega, rfl, by show 1 <= (1 : Int); omega, by show (1 : Int) <= 8192; omega, hz⟩ ?_
      rintro m ⟨acc, i'⟩ X ⟨i, hi, he, ha, hb, hzz⟩ hX
      simp only at he ha hb hzz
      subst he
      unfold tR
      by_cases hlt : i < l.length
      · rw [RJ hlt, aEv ha hb] at hzz
        rw [if_pos (decide_eq_true (show (i : Int) < (l.length : Int) by omega))]
        dsimp only
        refine ⟨by omega, ?_⟩
        rw [Int.toNat_natCast]
        generalize l.getD i 0 = d at hzz ⊢
        split at hzz
        · omega
        · rename_i hd
          simp only [Bool.or_eq_true, decide_eq_true_eq, not_or] at hd
          split at hzz
          · omega
          · have hb2 := E4 acc d 8192 4096 (by omega) (by omega) (by omega) (by omega) (by omega)
            rw [aA (acc * d) (by omega) (by omega), aA ((i : Int) + 1) (by omega) (by omega)]
            exact hX (m - 1) _ (by omega) ⟨i + 1, by omega, rfl, aBo ha (by omega), by show acc * d <= 8192; omega, hzz⟩
      · have hil : i = l.length := by omega
        subst hil
        rw [if_neg (by simp)]
        rw [List.drop_length] at hzz
        unfold uI at hzz
        dsimp only
        rw [hzz]
        exact h
  · rw [if_pos (by simp; omega)]
    have : szF l = 0 := by have := L3 l; omega
    rw [this] at h; exact h
theorem aOQ {n k s p : Int} {Q : Int -> Prop} (hp : -1000000 <= p /\ p <= 1000000) (h : Q (bW n k s p)) : eX n k s p Q := by
 refine ⟨?_⟩
 unfold bW yD inP at h
 by_cases h1 : (1 <= n /\ n <= 16) /\ (1 <= k /\ k <= 5)
 ·rw [aA (2 * p) (by omega) (by omega), aA (n + 2 * p) (by omega) (by omega)]
  by_cases h2 : (1 <= s /\ s <= 4) /\ (0 <= p /\ p <= k - 1) /\ k <= n + 2 * p
  ·rw [if_neg (by simp; omega)] at h
   rw [if_neg (by simp; omega)]
   have d0 : 0 <= (n + 2 * p - k) / s := Int.ediv_nonneg (by omega) (by omega)
   have d1 : (n + 2 * p - k) / s <= n + 2 * p - k := Int.ediv_le_self _ (by omega)
   refine ⟨by omega, ?_⟩
   rw [aA (n + 2 * p - k) (by omega) (by omega), Int.tdiv_eq_ediv_of_nonneg (by omega), aA ((n + 2 * p - k) / s) (by omega) (by omega), aA _ (by omega) (by omega)]
   exact h
  ·rw [if_pos (by simp; omega)] at h
   rw [if_pos (by simp; omega)]
   exact h
 ·rw [if_pos (by simp; omega)] at h
  rw [if_pos (by simp; omega)]
  exact h
end Go.Proofs.YtcfpfefadlnmcaaGreat

namespace Go.Proofs.YtcfpfefadlnmcaaGreat
open Go.Mach Go.RowKit
set_option maxRecDepth 100000
set_option linter.unusedVariables false
set_option linter.unusedSimpArgs false
theorem aKV {B : Int -> (Int -> Prop) -> Prop} (a b : List Int) (hl : a.length = b.length) {K0 K1 : Prop} (step : ∀ i : Nat, i < a.length -> ∀ X : Int -> Prop, (a.getD i 0 = b.getD i 0 -> X ((i + 1 : Nat) : Int)) -> (a.getD i 0 ≠ b.getD i 0 -> K1) -> B (i : Int) X) (last : K0 -> ∀ X, B (a.length : Int) X) (h : if a = b then K0 else K1) : Go.Mach.Loop B 0 := by
 refine Loop.range (B := B) (f := fun i : Nat => (i : Int)) a.length (fun i => ∀ j, j < i -> a.getD j 0 = b.getD j 0) (fun j hj => absurd hj (by omega)) ?_ ?_
 ·intro i hi hI X hX
  refine step i hi X (fun e => hX fun j hj => ?_) (fun e => ?_)
  ·by_cases g : j = i
   ·subst g; exact e
   ·exact hI j (by omega)
  ·rw [if_neg (fun g => e (by rw [g]))] at h
   exact h
 ·intro hI X
  refine last ?_ X
  rw [if_pos (aFx hl hI)] at h
  exact h
theorem KY {a b : List Int} {Q : Bool -> Prop} (hl : a.length <= 1000000) (h : Q (decide (a = b))) : aO a b Q := by
 refine ⟨?_⟩
 by_cases e : a.length = b.length
 ·rw [if_neg (by simp [e])]
  refine ⟨?_⟩
  refine aKV (B := d7 a b (a.length : Int) _ _) a b e (K0 := Q true) (K1 := Q false) ?_ ?_ ?_
  ·intro i hi X hX hK
   unfold d7
   rw [if_pos (by simpa using hi)]
   refine ⟨by omega, by omega, ?_⟩
   simp only [Int.toNat_natCast]
   by_cases g : a.getD i 0 = b.getD i 0
   ·rw [if_neg (by simpa using g), aA _ (by omega) (by omega)]; exact hX g
   ·rw [if_pos (by simpa using g)]; exact hK g
  ·intro hK X
   unfold d7
   rw [if_neg (by simp)]
   exact hK
  ·by_cases g : a = b
   ·rw [if_pos g]; simpa [g] using h
   ·rw [if_neg g]; simpa [g] using h
 ·rw [if_pos (by simp; omega)]
  rw [decide_eq_false (fun g => e (by rw [g]))] at h
  exact h
end Go.Proofs.YtcfpfefadlnmcaaGreat

namespace Go.Proofs.YtcfpfefadlnmcaaGreat
open Go.Mach Go.RowKit
set_option maxRecDepth 100000
set_option linter.unusedVariables false
set_option linter.unusedSimpArgs false
theorem aAu {n k s p : Int} {Q : Int -> Prop} (h : Q (bW n k s p)) : eX n k s p Q := by
 by_cases hp : 0 <= p /\ p < k /\ k <= 5
 ·exact aOQ (by omega) h
 ·refine ⟨?_⟩
  unfold bW yD inP at h
  rw [if_pos (by simp; omega)] at h
  rw [if_pos (by simp; omega)]
  exact h
end Go.Proofs.YtcfpfefadlnmcaaGreat

namespace Go.Proofs.YtcfpfefadlnmcaaGreat
open Go.Mach Go.RowKit
set_option maxRecDepth 100000
set_option linter.unusedVariables false
set_option linter.unusedSimpArgs false
theorem aNC {a b : List Int × Int × List Int} {Q : Bool -> Prop} (h1 : a.1.length <= 1000000) (h2 : a.2.2.length <= 1000000) (h : Q (decide (a = b))) : rH a b Q := by
  refine ⟨?_⟩
  obtain ⟨a1, a2, a3⟩ := a
  obtain ⟨b1, b2, b3⟩ := b
  dsimp only at h1 h2 ⊢
  refine KY h1 ?_
  by_cases e1 : a1 = b1 /\ a2 = b2 /\ a3.length = b3.length
  rotate_left
  · have hf : decide ((a1, a2, a3) = (b1, b2, b3)) = false := by
      simp only [decide_eq_false_iff_not, Prod.mk.injEq]
      rintro ⟨rfl, rfl, rfl⟩; exact e1 ⟨rfl, rfl, rfl⟩
    rw [hf] at h
    rw [if_pos ?_]
    · exact h
    · simp only [Bool.or_eq_true, Bool.not_eq_true', decide_eq_false_iff_not, bne_iff_ne, ne_eq]
      by_cases h3 : a1 = b1
      · by_cases h4 : a2 = b2
        · exact .inr (fun hh => e1 ⟨h3, h4, by omega⟩)
        · exact .inl (.inr h4)
      · exact .inl (.inl h3)
  obtain ⟨rfl, rfl, e⟩ := e1
  rw [if_neg (by simp [e])]
  refine ⟨?_⟩
  refine Loop.range (B := fX (a3.length : Int) a3 b3 (fun _ => Q true) (fun _ => Q false)) a3.length (fun i => (i : Int)) (fun i => ∀ j, j < i -> a3.getD j 0 = b3.getD j 0) (fun j hj => absurd hj (by omega)) ?_ ?_
  · intro i hi hI X hX
    unfold fX
    rw [if_pos (decide_eq_true (show (i : Int) < (a3.length : Int) by omega))]
    refine ⟨by omega, by omega, ?_⟩
    simp only [Int.toNat_natCast]
    by_cases hd : a3.getD i 0 = b3.getD i 0
    · rw [if_neg (by simpa using hd), aA _ (by omega) (by omega)]
      refine hX fun j hj => ?_
      by_cases hji : j = i
      · subst hji; exact hd
      · exact hI j (by omega)
    · rw [if_pos (by simpa using hd)]
      have : decide ((a1, a2, a3) = (a1, a2, b3)) = false := by
        simp only [decide_eq_false_iff_not, Prod.mk.injEq]
        rintro ⟨_, _, hab⟩; exact hd (by rw [hab])
      rw [this] at h; exact h
  · intro hI X
    unfold fX
    rw [if_neg (by simp)]
    have : a3 = b3 := by
      refine List.ext_getElem e fun i h1 h2 => ?_
      have := hI i h1
      rw [List.getD_eq_getElem?_getD, List.getD_eq_getElem?_getD, List.getElem?_eq_getElem h1, List.getElem?_eq_getElem h2] at this
      exact this
    subst this
    rw [decide_eq_true rfl] at h; exact h
end Go.Proofs.YtcfpfefadlnmcaaGreat

namespace Go.Proofs.YtcfpfefadlnmcaaGreat
open Go.Mach Go.RowKit
set_option maxRecDepth 100000
set_option linter.unusedVariables false
set_option linter.unusedSimpArgs false
theorem aIf : aGt ([1, 2], 0, [1, 2]) ([1, 2], 0, [3, 4]) ([1], 0, [5]) = (([1, 1], 0, [16]), 0) := by decide +kernel
theorem aFp {s t : Int} : pQ ([1, 1], 0, [16]) 8 s t = (([1, 1], 0, [16]), 0) := by
 have h1 : ((!(iU ([1, 1], 0, [16])) || (decide ((8 : Int) < 2))) || (decide ((8 : Int) < 8))) = false := by decide +kernel
 have h2 : oN ([1, 1], 0, [16]) 8 = 0 := by decide +kernel
 unfold pQ
 rw [h1, h2, if_neg (by simp), if_neg (by decide +kernel)]
 unfold aCP
 show (([1, 1], _, [aEn 8 s t 0 [16] 0]), 0) = _
 unfold aEn
 rw [aLf]
 decide +kernel
theorem aFN {Q : Bool -> Prop} (h : Q true) : cY Q := by
 refine ⟨⟨⟨?_⟩⟩⟩
 refine aIJ ?_
 unfold jn
 dsimp only
 rw [if_neg (by decide)]
 refine aMG (by decide) ?_
 have hP : N3 ((1, (1, 2)), [(6, (0, (0, (0, (0, (0, false)))))), (1, (1, (0, (0, (0, (0, false))))))]) [((([] : List Int), (0, ([] : List Int))), (([] : List Int), (([] : List Int), (0, ([] : List Int))))), (([1, 2], (0, [3, 4])), ([0, 0], ([1], (0, [5]))))] = true := by decide +kernel
 rw [hP, if_neg (by simp)]
 refine tD ?_
 have hx : aW ([1, 1, 1, 2], (0, [1, 2])) = true := by decide +kernel
 rw [hx]
 simp only [Bool.not_true, Bool.false_eq_true, if_false]
 rw [if_neg (by decide)]
 refine ⟨by decide, aCC (by decide) ?_⟩
 rw [if_neg (by decide)]
 refine EY (by decide) (aB8 (by decide) ⟨?_⟩)
 intro X hX
 refine hX _ ?_
 unfold fN
 dsimp only
 rw [if_pos (by decide)]
 refine ⟨by decide, by decide, aKK ⟨⟨?_⟩⟩⟩
 refine ⟨by decide, ?_⟩
 rw [if_neg (by decide), if_neg (by decide), if_neg (by decide), if_neg (by decide)]
 dsimp only
 rw [if_neg (by decide), if_neg (by decide)]
 refine ⟨by decide, ?_⟩
 rw [if_neg (by decide), if_neg (by decide)]
 have hf : EP ([1, 1, 1, 2], (0, [1, 2])) = (([1, 2], 0, [1, 2]), 0) := by decide +kernel
 have hT : ([([1, 1, 1, 2], (0 : Int), [1, 2])] : List T3).getD (IntKind.i64.wrap ((([([1, 1, 1, 2], (0 : Int), [1, 2])] : List T3).length : Int) - 1)).toNat ([], (0, [])) = ([1, 1, 1, 2], 0, [1, 2]) := by decide +kernel
 simp only [hT]
 refine aMB ⟨?_⟩
 rw [hf]
 dsimp only
 rw [if_neg (by decide)]
 refine ⟨by decide, by decide, hX _ ?_⟩
 unfold fN
 dsimp only
 rw [if_pos (by decide)]
 refine ⟨by decide, by decide, aKK ⟨⟨?_⟩⟩⟩
 refine ⟨by decide, ?_⟩
 rw [if_pos (by decide)]
 have hT2 : ([([1, 1, 1, 2], (0 : Int), [1, 2])] ++ [([1, 2], (0 : Int), [1, 2])] : List T3).getD (IntKind.i64.wrap ((([([1, 1, 1, 2], (0 : Int), [1, 2])] ++ [([1, 2], (0 : Int), [1, 2])] : List T3).length : Int) - 1)).toNat ([], (0, [])) = ([1, 2], 0, [1, 2]) := by decide +kernel
 simp only [hT2]
 have hP2 : ([(([], 0, []), [], [], 0, []), (([1, 2], 0, [3, 4]), [0, 0], [1], 0, [5])] : List Prm).getD (IntKind.i64.wrap (0 + 1)).toNat rS = (([1, 2], 0, [3, 4]), [0, 0], [1], 0, [5]) := by decide +kernel
 simp only [hP2]
 refine aNn (by intro y hy; simp at hy; omega) (by intro y hy; simp at hy; omega) (by intro y hy; simp at hy; omega) ?_
 rw [aIf]
 dsimp only
 rw [if_neg (by decide), if_pos (by decide)]
 refine aJl ?_
 rw [aFp]
 dsimp only
 rw [if_neg (by decide)]
 refine ⟨by decide, by decide, hX _ ?_⟩
 unfold fN
 dsimp only
 rw [if_neg (by decide), if_pos (by decide)]
 refine ⟨by decide, ?_⟩
 rw [if_pos (by decide)]
 refine ⟨by decide, by decide, ?_⟩
 rw [if_pos (by decide)]
 refine aKK ?_
 rw [show EA 2 3 4 = 2100 by decide]
 exact h
end Go.Proofs.YtcfpfefadlnmcaaGreat

namespace Go.Proofs.YtcfpfefadlnmcaaGreat
open Go.Mach
set_option maxRecDepth 100000
set_option linter.unusedVariables false
set_option linter.unusedSimpArgs false
theorem NS {a lo hi : Int} {Q : Bool -> Prop} (h : Q (inP a lo hi)) : bB a lo hi Q := ⟨h⟩
theorem aMP {a : Int × Int × Int} {Q : Bool -> Prop} (h : Q (qV a)) : qM a Q := by
 refine ⟨NS ?_⟩
 unfold qV at h
 refine SO (c := inP a.2.1 1 16) (fun _ P hP => NS hP) (fun v e => ?_) rfl
 refine SO (c := inP a.2.2 1 16) (fun _ P hP => NS hP) (fun v2 e2 => ?_) rfl
 rw [e2, e]
 exact h
theorem aDD {K : Unit -> Prop} (h : K ()) : cD K := ⟨h⟩
theorem aNR {x : Lay} {n : Int} {Q : Bool -> Prop} (h : Q (rB x n)) : lG x n Q := by
 obtain ⟨kd, ou, k, st, pd, fr, fz⟩ := x
 refine ⟨?_⟩
 dsimp only
 unfold rB at h
 dsimp only at h
 have fin : ∀ {b : Bool} {k' st' fr' : Int}, (b && ((kd == kd) && ((ou == 0) && ((k == k') && ((st == st') && ((pd == 0) && ((fr == fr') && ((fz == false) && (true)))))))))
   = (b && ((ou == 0) && ((k == k') && ((st == st') && ((pd == 0) && ((fr == fr') && (fz == false))))))) := by
  intro b k' st' fr'
  simp
 by_cases h1 : kd = 1
 ·rw [if_pos h1] at h
  rw [if_pos (by simpa using h1)]
  refine NS (aDD (cast (congrArg Q ?_) h))
  simp
 rw [if_neg h1] at h
 rw [if_neg (by simpa using h1)]
 by_cases h2 : kd = 2
 ·rw [if_pos h2] at h
  rw [if_pos (by simpa using h2)]
  refine NS ?_
  refine SO (c := inP k 1 5) (fun _ P hP => NS hP) (fun v e => ?_) rfl
  refine SO (c := inP st 1 4) (fun _ P hP => NS hP) (fun v2 e2 => ?_) rfl
  refine SO (c := inP pd 0 (IntKind.i64.wrap (k - 1))) (fun _ P hP => NS hP) (fun v3 e3 => ?_) rfl
  refine aDD (cast (congrArg Q ?_) h)
  rw [e3, e2, e]
  unfold aIb
  simp [Bool.and_assoc]
 rw [if_neg h2] at h
 rw [if_neg (by simpa using h2)]
 have win : ∀ {K0 : Bool × Int × Int × Int -> Prop} {K1 : Unit -> Prop} {x1 : Bool}, K0 (aIb (kd, ou, k, st, pd, fr, fz), k, st, 0) -> eL n x1 kd true k st fr 0 0 0 K0 K1 := by
  intro K0 K1 x1 hK
  refine ⟨?_⟩
  rw [if_pos rfl]
  refine NS ?_
  refine SO (c := inP st 1 4) (fun _ P hP => NS hP) (fun v e => ?_) rfl
  rw [e]
  exact hK
 by_cases h3 : kd = 3
 ·rw [if_pos (.inl h3)] at h
  rw [if_pos (by simpa using h3)]
  have e3 : (kd == 3) = true := by simpa using h3
  rw [e3]
  refine win (aDD (cast (congrArg Q ?_) h))
  rw [fin]
  simp
 rw [if_neg (by simpa using h3)]
 by_cases h4 : kd = 4
 ·rw [if_pos (.inr h4)] at h
  have e4 : (kd == 4) = true := by simpa using h4
  rw [e4]
  refine win (aDD (cast (congrArg Q ?_) h))
  rw [fin]
  simp
 rw [if_neg (by omega)] at h
 have e4 : (kd == 4) = false := by simpa using h4
 rw [e4]
 refine ⟨?_⟩
 rw [if_neg (by simp)]
 by_cases h5 : kd = 5
 ·rw [if_pos (.inl h5)] at h
  have e5 : (kd == 5) = true := by simpa using h5
  rw [if_pos e5, e5]
  refine ⟨?_⟩
  rw [if_pos rfl]
  refine aDD (cast (congrArg Q ?_) h)
  rw [fin]
  simp
 rw [if_neg (by simpa using h5)]
 by_cases h6 : kd = 6
 ·rw [if_pos (.inr h6)] at h
  have e6 : (kd == 6) = true := by simpa using h6
  rw [e6]
  refine ⟨?_⟩
  rw [if_pos rfl]
  refine aDD (cast (congrArg Q ?_) h)
  rw [fin]
  simp
 rw [if_neg (by omega)] at h
 have e6 : (kd == 6) = false := by simpa using h6
 rw [e6]
 refine ⟨?_⟩
 rw [if_neg (by simp)]
 by_cases h7 : kd = 7
 ·rw [if_pos h7] at h
  rw [if_pos (by simpa using h7)]
  refine NS (aDD (cast (congrArg Q ?_) h))
  rw [fin]
  simp
 ·rw [if_neg h7] at h
  rw [if_neg (by simpa using h7)]
  exact h
theorem aNA {m : Mdl} {Q : Bool -> Prop} (hl : m.2.length <= 10000000000000) (h : Q (tO m)) : lO m Q := by
  refine ⟨aMP ?_⟩
  unfold tO at h
  refine AX (c := !inP (m.2.length : Int) 1 12) (fun _ P hP => NS hP) (fun v e => ?_) rfl
  cases v with
  | true =>
    rw [if_pos rfl]
    have e : (!qV m.1 || !inP (m.2.length : Int) 1 12) = true := e.symm
    have : (qV m.1 && inP (m.2.length : Int) 1 12) = false := by
      revert e
      cases qV m.1 <;> cases inP (m.2.length : Int) 1 12 <;> simp
    rw [this] at h
    exact h
  | false =>
    rw [if_neg (by simp)]
    have e : (!qV m.1 || !inP (m.2.length : Int) 1 12) = false := e.symm
    have : (qV m.1 && inP (m.2.length : Int) 1 12) = true := by
      revert e
      cases qV m.1 <;> cases inP (m.2.length : Int) 1 12 <;> simp
    rw [this, Bool.true_and] at h
    refine ⟨?_⟩
    refine Loop.range (B := dL m.2 (m.2.length : Int) (fun _ => Q true) (fun _ => Q false)) m.2.length (fun i => (i : Int)) (fun i => ∀ j, j < i -> rB (m.2.getD j dX) j = true) (fun j hj => absurd hj (by omega)) ?_ ?_
    · intro i hi hI X hX
      unfold dL
      rw [if_pos (decide_eq_true (show (i : Int) < (m.2.length : Int) by omega))]
      refine ⟨by omega, aNR ?_⟩
      simp only [Int.toNat_natCast]
      show if (!rB (m.2.getD i dX) i) = true then _ else _
      cases hb : rB (m.2.getD i dX) i with
      | true =>
        rw [if_neg (by simp), aA _ (by omega) (by omega)]
        refine hX fun j hj => ?_
        by_cases hji : j = i
        · subst hji; exact hb
        · exact hI j (by omega)
      | false =>
        rw [if_pos (by rfl)]
        have : SV m.2 = false := by
          unfold SV
          rw [List.all_eq_false]
          exact ⟨i, List.mem_range.2 hi, by rw [hb]; simp⟩
        rw [this] at h
        exact h
    · intro hI X
      unfold dL
      rw [if_neg (by simp)]
      have : SV m.2 = true := by
        unfold SV
        rw [List.all_eq_true]
        intro j hj
        exact hI j (List.mem_range.1 hj)
      rw [this] at h
      exact h
def DimOk (d : List Int) : Prop := (∃ n, d = [n] /\ 1 <= n /\ n <= 4096) \/ ∃ c p q, d = [c, p, q] /\ (1 <= c /\ c <= 8) /\ (1 <= p /\ p <= 20) /\ (1 <= q /\ q <= 20)
theorem aPJ {c p q : Int} (h1 : 1 <= c /\ c <= 8) (h2 : 1 <= p /\ p <= 20) (h3 : 1 <= q /\ q <= 20) : 1 <= c * p * q /\ c * p * q <= 3200 /\ 1 <= c * p /\ c * p <= 160 := by
 have a1 : c * p <= 8 * 20 := Int.mul_le_mul h1.2 h2.2 (by omega) (by omega)
 have a2 : 1 * 1 <= c * p := Int.mul_le_mul h1.1 h2.1 (by omega) (by omega)
 have a3 : c * p * q <= 160 * 20 := Int.mul_le_mul (by omega) h3.2 (by omega) (by omega)
 have a4 : 1 * 1 <= c * p * q := Int.mul_le_mul (by omega) h3.1 (by omega) (by omega)
 omega
theorem DimOk.sz {d : List Int} (h : DimOk d) : 0 < szF d /\ yZ d = szF d /\ szF d <= 4096 /\ d ≠ [] /\ d.length <= 3 /\ 1 <= d.getD 0 0 /\ d.getD 0 0 <= 4096 := by
 rcases h with ⟨n, rfl, h1, h2⟩ | ⟨c, p, q, rfl, h1, h2, h3⟩
 ·rw [aMq h1 h2]
  refine ⟨by omega, ?_, by omega, by simp, by simp, by simpa using h1, by simpa using h2⟩
  show IntKind.i64.wrap (1 * n) = n
  rw [Int.one_mul, aA _ (by omega) (by omega)]
 ·obtain ⟨a1, a2, a3, a4⟩ := aPJ h1 h2 h3
  have e : szF [c, p, q] = c * p * q := by
   rw [aIl (by simp) (by intro d hd; simp at hd; omega) (by show c * (p * (q * 1)) <= 8192; rw [Int.mul_one, <- Int.mul_assoc]; omega)]
   show c * (p * (q * 1)) = _
   rw [Int.mul_one, Int.mul_assoc]
  rw [e]
  refine ⟨by omega, ?_, by omega, by simp, by simp, by simpa using h1.1, by show c <= 4096; omega⟩
  show IntKind.i64.wrap (IntKind.i64.wrap (IntKind.i64.wrap (1 * c) * p) * q) = c * p * q
  rw [Int.one_mul, aA c (by omega) (by omega), aA (c * p) (by omega) (by omega), aA _ (by omega) (by omega)]
theorem aNk {n k s p : Int} (h : bW n k s p ≠ 0) : 1 <= bW n k s p /\ bW n k s p <= 20 := by
 have := pZ n k s p
 obtain ⟨a, b, c, d, e, f⟩ := yF (n := n) (k := k) (s := s) (p := p) (by omega)
 have h1 : (n + 2 * p - k) / s <= n + 2 * p - k := Int.ediv_le_self _ (by omega)
 omega
theorem aEZ {d : List Int} {c : Int} {x : Lay} (hc : 1 <= c /\ c <= 8) (h : kP d c x ≠ []) : DimOk (kP d c x) := by
 unfold kP at h ⊢
 split at h
 ·rename_i h3
  rw [if_pos h3]
  split at h
  ·exact absurd rfl h
  ·rename_i h4
   rw [if_neg h4]
   exact .inr ⟨_, _, _, rfl, hc, aNk (fun e => h4 (.inl e)), aNk (fun e => h4 (.inr e))⟩
 ·exact absurd rfl h
theorem aC5 {x : Lay} {n : Int} (h : rB x n = true) : (x.1 = 1 /\ 1 <= x.2.1 /\ x.2.1 <= 4096) \/ (x.1 = 2 /\ 1 <= x.2.1 /\ x.2.1 <= 8) \/ ((x.1 = 3 \/ x.1 = 4) /\ x.2.2.2.2.1 = 0) \/ x.1 = 5 \/ x.1 = 6 \/ x.1 = 7 := by
 unfold rB at h
 split at h
 ·simp only [Bool.and_eq_true, inP, decide_eq_true_eq] at h
  exact .inl ⟨by assumption, h.1⟩
 split at h
 ·simp only [Bool.and_eq_true, inP, decide_eq_true_eq] at h
  exact .inr (.inl ⟨by assumption, h.1.1.1⟩)
 split at h
 ·simp only [Bool.and_eq_true, beq_iff_eq] at h
  exact .inr (.inr (.inl ⟨by assumption, h.2.2.1⟩))
 split at h
 ·rename_i e; rcases e with e | e
  ·exact .inr (.inr (.inr (.inl e)))
  ·exact .inr (.inr (.inr (.inr (.inl e))))
 split at h
 ·rename_i e; exact .inr (.inr (.inr (.inr (.inr e))))
 ·cases h
theorem YJ {x : Lay} {l : List (List Int)} {d : List Int} {n : Int} (hm : rB x n = true) (hd : DimOk d) (h : iM x l d ≠ []) : DimOk (iM x l d) := by
 unfold iM at h ⊢
 rcases aC5 hm with ⟨e, h1, h2⟩ | ⟨e, h1, h2⟩ | ⟨e, h1⟩ | e | e | e
 ·rw [if_pos e] at h ⊢
  split at h
  ·rename_i h3; rw [if_pos h3]; exact .inl ⟨_, rfl, h1, h2⟩
  ·exact absurd rfl h
 ·rw [if_neg (by omega), if_pos e] at h ⊢
  exact aEZ ⟨h1, h2⟩ h
 ·rw [if_neg (by omega), if_neg (by omega), if_pos e] at h ⊢
  refine aEZ ?_ h
  unfold kP at h
  split at h
  ·rename_i h3
   rcases hd with ⟨n, rfl, _⟩ | ⟨c, p, q, rfl, hc, _⟩
   ·simp at h3
   ·exact hc
  ·exact absurd rfl h
 ·rw [if_neg (by omega), if_neg (by omega), if_neg (by omega), if_pos e]
  exact hd
 ·rw [if_neg (by omega), if_neg (by omega), if_neg (by omega), if_neg (by omega), if_pos e]
  obtain ⟨q1, q2, q3, _⟩ := hd.sz
  exact .inl ⟨_, rfl, by omega, by omega⟩
 ·rw [if_neg (by omega), if_neg (by omega), if_neg (by omega), if_neg (by omega), if_neg (by omega), if_pos e] at h ⊢
  split at h
  ·rename_i h3; rw [if_pos h3]; exact hd
  ·exact absurd rfl h
theorem QV {a b k s p : Int} {Q : Int × Int -> Prop} (h : Q (bW a k s p, bW b k s p)) : dA a b k s p Q := ⟨aAu (aAu h)⟩
theorem aNW {l : List Int} {K0 : Int -> Prop} (hl : l.length <= 1000000) (h : K0 (yZ l)) : dS l (l.length : Int) K0 (1, 0) := by
 refine ⟨?_⟩
 refine Loop.range (B := fD l (l.length : Int) K0) l.length (fun i => (yZ (l.take i), (i : Int))) (fun _ => True) trivial ?_ ?_
 ·intro i hi _ X hX
  unfold fD
  dsimp only
  rw [if_pos (decide_eq_true (show (i : Int) < (l.length : Int) by omega))]
  refine ⟨by omega, ?_⟩
  rw [Int.toNat_natCast, aA ((i : Int) + 1) (by omega) (by omega)]
  have hX := hX trivial
  have e : yZ (l.take (i + 1)) = IntKind.i64.wrap (yZ (l.take i) * l.getD i 0) := by
   rw [IX hi 0]; unfold yZ; rw [List.foldl_append]; rfl
  rw [e] at hX
  exact hX
 ·intro _ X
  unfold fD
  rw [if_neg (by simp)]
  dsimp only
  rw [List.take_length]
  exact h
theorem aLb {x : Lay} {d : List Int} {l : List (List Int)} {n : Int} {Q : List Int × Bool -> Prop} (hm : rB x n = true) (hd : DimOk d) (hx : x.1 = 7 -> 0 <= x.2.2.2.2.2.1 /\ x.2.2.2.2.2.1 < (l.length : Int)) (h1 : iM x l d ≠ [] -> Q (iM x l d, true)) (h2 : iM x l d = [] -> ∀ r, Q (r, false)) : p7 x d l Q := by
  obtain ⟨z1, z2, z3, z4, z5, z6, z7⟩ := hd.sz
  refine ⟨?_⟩
  have pl : ∀ c : Int, (kP d c x ≠ [] -> Q (kP d c x, true)) -> (kP d c x = [] -> ∀ r, Q (r, false)) -> (((d.length : Int) != 3) = true -> Q ([], false)) /\ (((d.length : Int) != 3) = false -> d.length = 3 /\ bV (bW (d.getD 1 0) x.2.2.1 x.2.2.2.1 x.2.2.2.2.1) (bW (d.getD 2 0) x.2.2.1 x.2.2.2.1 x.2.2.2.2.1) fun y => Q ([c, bW (d.getD 1 0) x.2.2.1 x.2.2.2.1 x.2.2.2.2.1, bW (d.getD 2 0) x.2.2.1 x.2.2.2.1 x.2.2.2.2.1], y)) := by
    intro c k1 k2
    refine ⟨fun h => ?_, fun h => ?_⟩
    · refine k2 ?_ _
      unfold kP
      rw [if_neg (by intro e; rw [e] at h; simp at h)]
    · have h3 : d.length = 3 := by have : (d.length : Int) = 3 := by simpa using h
                                   omega
      refine ⟨h3, ⟨?_⟩⟩
      unfold kP at k1 k2
      rw [if_pos h3] at k1 k2
      obtain ⟨a1, _⟩ := pZ (d.getD 1 0) x.2.2.1 x.2.2.2.1 x.2.2.2.2.1
      obtain ⟨b1, _⟩ := pZ (d.getD 2 0) x.2.2.1 x.2.2.2.1 x.2.2.2.2.1
      by_cases h4 : bW (d.getD 1 0) x.2.2.1 x.2.2.2.1 x.2.2.2.2.1 = 0 \/ bW (d.getD 2 0) x.2.2.1 x.2.2.2.1 x.2.2.2.2.1 = 0
      · rw [if_pos h4] at k2
        have e : (decide (0 < bW (d.getD 1 0) x.2.2.1 x.2.2.2.1 x.2.2.2.2.1) && decide (0 < bW (d.getD 2 0) x.2.2.1 x.2.2.2.1 x.2.2.2.2.1)) = false := by
          simp only [Bool.and_eq_false_iff, decide_eq_false_iff_not]; omega
        rw [e]
        exact k2 rfl _
      · rw [if_neg h4] at k1
        have e : (decide (0 < bW (d.getD 1 0) x.2.2.1 x.2.2.2.1 x.2.2.2.2.1) && decide (0 < bW (d.getD 2 0) x.2.2.1 x.2.2.2.1 x.2.2.2.2.1)) = true := by
          simp only [Bool.and_eq_true, decide_eq_true_eq]; omega
        rw [e]
        exact k1 (by simp)
  have dd : 0 < d.length := List.length_pos_iff.2 z4
  unfold iM at h1 h2
  rcases aC5 hm with ⟨e, _⟩ | ⟨e, _⟩ | ⟨e, _⟩ | e | e | e
  · rw [if_pos e] at h1 h2
    rw [if_pos (by simpa using e)]
    by_cases h3 : d.length = 1
    · rw [if_pos h3] at h1
      have : ((d.length : Int) == 1) = true := by simp [h3]
      rw [this]; exact h1 (by simp)
    · rw [if_neg h3] at h2
      have : ((d.length : Int) == 1) = false := by simp; omega
      rw [this]; exact h2 rfl _
  · rw [if_neg (by omega), if_pos e] at h1 h2
    obtain ⟨p1, p2⟩ := pl x.2.1 h1 h2
    have e2 : (x.1 == 2) = true := by simpa using e
    rw [if_neg (by simp [e]), if_pos e2, if_pos e2]
    split
    · exact p1 (by assumption)
    · rename_i hn
      obtain ⟨g1, g2⟩ := p2 (by simpa using hn)
      exact ⟨by omega, by omega, QV ⟨by omega, g2⟩⟩
  · rw [if_neg (by omega), if_neg (by omega), if_pos e] at h1 h2
    obtain ⟨p1, p2⟩ := pl (d.getD 0 0) h1 h2
    rw [if_neg (by simp; omega), if_neg (by simp; omega)]
    rcases e with e | e
    · have e2 : (x.1 == 3) = true := by simpa using e
      rw [if_pos e2, if_pos e2]
      split
      · exact p1 (by assumption)
      · rename_i hn
        obtain ⟨g1, g2⟩ := p2 (by simpa using hn)
        refine ⟨by omega, by omega, QV ⟨by omega, ?_⟩⟩
        rw [if_neg (by simp; omega)]
        exact g2
    · have e2 : (x.1 == 4) = true := by simpa using e
      rw [if_neg (by simp; omega), if_pos e2]
      split
      · exact p1 (by assumption)
      · rename_i hn
        obtain ⟨g1, g2⟩ := p2 (by simpa using hn)
        refine ⟨by omega, by omega, QV ⟨by omega, ?_⟩⟩
        rw [if_neg (by simp; omega)]
        exact g2
  · rw [if_neg (by omega), if_neg (by omega), if_neg (by omega), if_pos e] at h1 h2
    rw [if_neg (by simp; omega), if_neg (by simp; omega), if_neg (by simp; omega), if_neg (by simp; omega), if_neg (by simp; omega), if_neg (by simp; omega)]
    exact ⟨by omega, h1 z4⟩
  · rw [if_neg (by omega), if_neg (by omega), if_neg (by omega), if_neg (by omega), if_pos e] at h1 h2
    rw [if_neg (by simp; omega), if_neg (by simp; omega), if_neg (by simp; omega), if_neg (by simp; omega), if_pos (by simpa using e)]
    exact aNW (by omega) (h1 (by simp))
  · rw [if_neg (by omega), if_neg (by omega), if_neg (by omega), if_neg (by omega), if_neg (by omega), if_pos e] at h1 h2
    rw [if_neg (by simp; omega), if_neg (by simp; omega), if_neg (by simp; omega), if_neg (by simp; omega), if_neg (by simp; omega), if_pos (by simpa using e)]
    refine ⟨by omega, hx e, KY (by omega) ?_⟩
    by_cases h3 : l.getD x.2.2.2.2.2.1.toNat [] = d
    · rw [if_pos h3] at h1
      rw [decide_eq_true (show d = l.getD x.2.2.2.2.2.1.toNat [] from h3.symm)]
      exact h1 z4
    · rw [if_neg h3] at h2
      rw [decide_eq_false (show ¬ d = l.getD x.2.2.2.2.2.1.toNat [] from fun e => h3 e.symm)]
      exact h2 rfl _
end Go.Proofs.YtcfpfefadlnmcaaGreat

namespace Go.Proofs.YtcfpfefadlnmcaaGreat
open Go.Mach
set_option maxRecDepth 100000
set_option linter.unusedVariables false
set_option linter.unusedSimpArgs false
theorem aG3 {m : Mdl} (h : tO m = true) : (∃ c p q, inL m = [c, p, q] /\ (1 <= c /\ c <= 8) /\ (1 <= p /\ p <= 16) /\ (1 <= q /\ q <= 16)) /\ DimOk (inL m) := by
 obtain ⟨⟨h1, h2, h3⟩, _⟩ := nT h
 exact ⟨⟨_, _, _, rfl, h1, h2, h3⟩, .inr ⟨_, _, _, rfl, h1, by omega, by omega⟩⟩
theorem aBH {m : Mdl} (h : tO m = true) : bX m = gY m.2 0 [inL m] := by
 obtain ⟨_, h2⟩ := aG3 h
 obtain ⟨q1, q2, q3, _⟩ := h2.sz
 unfold bX
 rw [if_pos h, if_neg (by omega)]
theorem SM {x : Lay} {r : List Lay} {i : Int} {l : List (List Int)} {n : Int} (hm : rB x n = true) (hd : DimOk (l.getD (l.length - 1) [])) :
  gY (x :: r) i l = if iM x l (l.getD (l.length - 1) []) = [] then ([], i + 1, 2) else gY r (i + 1) (l ++ [iM x l (l.getD (l.length - 1) [])]) := by
 rw [gY]
 split
 ·rfl
 ·rename_i h
  have hg := YJ hm hd h
  obtain ⟨q1, q2, q3, _⟩ := hg.sz
  rw [if_neg (by omega)]
theorem aLY {m : Mdl} {i : Nat} (h : tO m = true) (hi : i < m.2.length) : rB (m.2.getD i dX) i = true /\ ((m.2.getD i dX).1 = 7 -> 0 <= (m.2.getD i dX).2.2.2.2.2.1 /\ (m.2.getD i dX).2.2.2.2.2.1 <= (i : Int) - 1) := by
 obtain ⟨_, ⟨k1, k2⟩, k3⟩ := nT h
 refine ⟨k3 i hi, fun h7 => ?_⟩
 have := KO (k3 i hi) h7
 rw [aA ((i : Int) - 1) (by omega) (by omega)] at this
 exact this
theorem aEs {m : Mdl} {Q : List (List Int) × Int × Int -> Prop} (hl : m.2.length <= 10000000000000) (h : Q (bX m)) : iY m Q := by
  refine ⟨aNA hl ?_⟩
  cases hm : tO ((m.1.1, m.1.2.1, m.1.2.2), m.2) with
  | false =>
    unfold bX at h
    have hm : tO m = false := hm
    rw [hm, if_neg (by simp)] at h
    exact h
  | true =>
    have hm : tO m = true := hm
    rw [if_neg (by simp)]
    rw [aBH hm] at h
    obtain ⟨_, ⟨k1, k2⟩, k3⟩ := nT hm
    refine ⟨?_⟩
    refine Loop.rangeI (B := eM m.2 (m.2.length : Int) (fun y => Q (y, 0, 0)) (fun y => Q ([], y.1, y.2))) m.2.length
      (fun i z => z.1 = (i : Int) /\ z.2.length = i + 1 /\ (∀ d ∈ z.2, DimOk d) /\ Q (gY (m.2.drop i) i z.2))
      ⟨rfl, rfl, (fun d hd => by rw [List.mem_singleton.1 hd]; exact (aG3 hm).2), by rw [List.drop_zero]; exact h⟩ ?_ ?_
    · rintro i hi ⟨z1, z2⟩ ⟨rfl, e1, hd, hq⟩ X hX
      unfold eM
      dsimp only at e1 hd hq ⊢
      rw [if_pos (decide_eq_true (show (i : Int) < (m.2.length : Int) by omega))]
      refine ⟨by omega, by omega, ?_⟩
      rw [aA ((i : Int) + 1) (by omega) (by omega)]
      simp only [Int.toNat_natCast]
      rw [List.drop_eq_getElem_cons hi] at hq
      have eg : m.2.getD i dX = m.2[i] := by rw [List.getD_eq_getElem?_getD, List.getElem?_eq_getElem hi]; rfl
      rw [<- eg] at hq
      have hdi : DimOk (z2.getD i []) := by
        rw [List.getD_eq_getElem?_getD, List.getElem?_eq_getElem (by omega)]
        exact hd _ (List.getElem_mem _)
      obtain ⟨g1, g2⟩ := aLY hm hi
      have el : z2.length - 1 = i := by omega
      rw [SM g1 (by rw [el]; exact hdi), el] at hq
      refine aLb (n := (i : Int)) g1 hdi (fun h7 => ?_) (fun hne => ?_) (fun he r => ?_)
      · have := g2 h7
        exact ⟨this.1, by show (m.2.getD i dX).2.2.2.2.2.1 < (z2.length : Int); omega⟩
      · rw [if_neg (by simp)]
        have hg := YJ g1 hdi hne
        obtain ⟨q1, q2, q3, _⟩ := hg.sz
        refine qR ?_
        have q1' : 0 < szF (iM (m.2.getD i dX) z2 (z2.getD i [])) := q1
        rw [decide_eq_true q1', if_neg (by simp)]
        have hne' : ¬ iM (m.2.getD i dX) z2 (z2.getD i []) = [] := hne
        rw [if_neg hne'] at hq
        refine ⟨by simp; omega, hX _ ⟨rfl, by simp [e1], ?_, hq⟩⟩
        intro d hdm
        rcases List.mem_append.1 hdm with hdm | hdm
        · exact hd d hdm
        · rw [List.mem_singleton.1 hdm]; exact hg
      · rw [if_pos (by rfl)]
        have he' : iM (m.2.getD i dX) z2 (z2.getD i []) = [] := he
        rw [if_pos he'] at hq
        exact hq
    · rintro ⟨z1, z2⟩ ⟨rfl, e1, hd, hq⟩ X
      unfold eM
      dsimp only at hq ⊢
      rw [if_neg (by simp)]
      rw [List.drop_length] at hq
      exact hq
theorem SS : ∀ (r : List Lay) (i : Nat) (l : List (List Int)), (∀ j, j < r.length -> rB (r.getD j dX) ((i + j : Nat) : Int) = true) -> l ≠ [] -> (∀ d ∈ l, DimOk d) -> (gY r i l).2.2 = 0 -> ∀ d ∈ (gY r i l).1, DimOk d
  | [], _, l, _, _, hd, _ => hd
  | x :: r, i, l, hm, hl, hd, h => by
    have hlast : DimOk (l.getD (l.length - 1) []) := by
      have := List.length_pos_iff.2 hl
      rw [List.getD_eq_getElem?_getD, List.getElem?_eq_getElem (by omega)]
      exact hd _ (List.getElem_mem _)
    have hx : rB x (i : Int) = true := by
      have := hm 0 (by simp)
      rw [Nat.add_zero] at this
      exact this
    rw [SM (n := (i : Int)) hx hlast] at h ⊢
    split at h
    · exact absurd (show (2 : Int) = 0 from h) (by decide)
    · rename_i hne
      rw [if_neg hne]
      have e : ((i : Int) + 1) = ((i + 1 : Nat) : Int) := by omega
      rw [e] at h ⊢
      refine SS r (i + 1) _ (fun j hj => ?_) (by simp) (fun d hdm => ?_) h
      · have := hm (j + 1) (by simp; omega)
        rw [show i + 1 + j = i + (j + 1) by omega]
        exact this
      · rcases List.mem_append.1 hdm with hdm | hdm
        · exact hd d hdm
        · rw [List.mem_singleton.1 hdm]; exact YJ hx hlast hne
theorem V3 {m : Mdl} (h : (bX m).2.2 = 0) : tO m = true /\ (bX m).1.length = m.2.length + 1 /\ ∀ d ∈ (bX m).1, DimOk d := by
 obtain ⟨h1, h2⟩ := DL h
 refine ⟨h1, h2.len, ?_⟩
 have h0 := h
 rw [aBH h1] at h ⊢
 obtain ⟨_, _, k3⟩ := nT h1
 exact SS m.2 0 [inL m] (fun j hj => by rw [Nat.zero_add]; exact k3 j hj) (by simp) (fun d hd => by rw [List.mem_singleton.1 hd]; exact (aG3 h1).2) h
theorem aK0 {m : Mdl} (h : (bX m).2.2 = 0) {i : Nat} (hi : i <= m.2.length) : DimOk ((bX m).1.getD i []) := by
 obtain ⟨_, h2, h3⟩ := V3 h
 rw [List.getD_eq_getElem?_getD, List.getElem?_eq_getElem (by omega)]
 exact h3 _ (List.getElem_mem _)
theorem aLW {x : Lay} {d : List Int} {Q : List Int × Int -> Prop} (hd : d ≠ []) (h : Q (ofF x d)) : rO x d Q := by
 have := List.length_pos_iff.2 hd
 refine ⟨?_⟩
 unfold ofF at h
 by_cases h1 : x.1 = 1
 ·rw [if_pos h1] at h
  rw [if_pos (by simpa using h1)]
  exact ⟨by omega, h⟩
 ·rw [if_neg h1] at h
  rw [if_neg (by simpa using h1)]
  by_cases h2 : x.1 = 2
  ·rw [if_pos h2] at h
   rw [if_pos (by simpa using h2)]
   exact ⟨by omega, h⟩
  ·rw [if_neg h2] at h
   rw [if_neg (by simpa using h2)]
   exact h
theorem aN5 {m : Mdl} {i : Int} {Q : List Int × Int -> Prop} (hl : m.2.length <= 10000000000000) (h : Q (AV m i)) : rR m i Q := by
 refine ⟨aEs hl ?_⟩
 unfold AV at h
 have e0 : bX ((m.1.1, m.1.2.1, m.1.2.2), m.2) = bX m := rfl
 rw [e0]
 split
 ·rename_i hb
  rw [if_pos hb] at h
  exact h
 ·rename_i hb
  rw [if_neg hb] at h
  have hb := Bool.eq_false_iff.2 hb
  simp only [Bool.or_eq_false_iff, decide_eq_false_iff_not, aCM] at hb
  obtain ⟨⟨b1, b2⟩, b3⟩ := hb
  obtain ⟨hm, q2, q3⟩ := V3 b1
  obtain ⟨_, ⟨k1, k2⟩, _⟩ := nT hm
  rw [aA (i - 1) (by omega) (by omega)]
  have hdi := aK0 b1 (i := (i - 1).toNat) (by omega)
  refine ⟨by omega, by omega, aLW hdi.sz.2.2.2.1 (qR ?_)⟩
  have e1 : (ofF (m.2.getD (i - 1).toNat dX) ((bX m).1.getD (i - 1).toNat [])) = ofF ((m.2.getD ((i - 1).toNat) (0, (0, (0, (0, (0, (0, false))))))).1, (((m.2.getD ((i - 1).toNat) (0, (0, (0, (0, (0, (0, false))))))).2).1, ((((m.2.getD ((i - 1).toNat) (0, (0, (0, (0, (0, (0, false))))))).2).2).1, (((((m.2.getD ((i - 1).toNat) (0, (0, (0, (0, (0, (0, false))))))).2).2).2).1, ((((((m.2.getD ((i - 1).toNat) (0, (0, (0, (0, (0, (0, false))))))).2).2).2).2).1, (((((((m.2.getD ((i - 1).toNat) (0, (0, (0, (0, (0, (0, false))))))).2).2).2).2).2).1, ((((((m.2.getD ((i - 1).toNat) (0, (0, (0, (0, (0, (0, false))))))).2).2).2).2).2).2)))))) ((bX m).1.getD (i - 1).toNat []) := rfl
  rw [<- e1]
  by_cases hs : 0 < szF (ofF (m.2.getD (i - 1).toNat dX) ((bX m).1.getD (i - 1).toNat [])).1
  ·rw [if_pos hs] at h
   rw [decide_eq_true hs, if_neg (by simp)]
   exact h
  ·rw [if_neg hs] at h
   rw [decide_eq_false hs, if_pos (by rfl)]
   exact h
end Go.Proofs.YtcfpfefadlnmcaaGreat
