/- Part of the proof. No condition. -/
import Derived.Test.YtbenbhdagmnapaaZ37
import Derived.Test.YtbenbhdagmnapaaYVTold
import Derived.Test.YtbenbhdagmnapaaZ36
namespace Go.Proofs.Ytbenbhdagmnapaa
open Go.Mach
set_option maxRecDepth 100000
set_option linter.unusedVariables false
set_option linter.unusedSimpArgs false
theorem aLe {t : T3} (h : dY t = true) : t.1.length <= 1000000 /\ t.2.2.length <= 1000000 := by
 have := pI h
 omega
theorem TenMay.at_ {l : List T3} (h : TenMay l) {i : Nat} (hi : i < l.length) : dY (l.getD i Z3) = true := by
 rw [List.getD_eq_getElem?_getD, List.getElem?_eq_getElem hi]
 exact h _ (List.getElem_mem _)
theorem aMb {u w : List T3} {i : Nat} {Q : Bool -> Prop} (h1 : TenMay u) (hi : i < u.length) (h : Q (decide (u.getD i Z3 = w.getD i Z3))) : kA (u.getD i Z3) (w.getD i Z3) Q := by
 obtain ⟨a, b⟩ := aLe (h1.at_ hi)
 exact aNh a b h
end Go.Proofs.Ytbenbhdagmnapaa

namespace Go.Proofs.Ytbenbhdagmnapaa
open Go.Mach Go.RowKit
set_option maxRecDepth 100000
set_option linter.unusedVariables false
abbrev aOz : Ty := .pair (.int .i64) (.pair (.int .i64) (.pair (.int .i64) (.pair (.int .i64) (.pair (.int .i64) (.pair (.int .i64) .bool)))))
abbrev aPB : Ty := .pair (.pair (.pair (.int .i64) (.pair (.int .i64) (.int .i64))) (.slc aOz)) (.pair (.int .u64) (.pair (.slc (.int .i8)) (.pair (.int .i64) (.pair (.slc (.int .i8)) (.int .i64)))))
theorem aMH {l : List Int} (h : VY (.slc (.int .i8)) l) : l.length <= 1000000000000000 /\ All8 l := by
 obtain ⟨h1, h2⟩ := h
 refine ⟨?_, fun y hy => aOj (h2 y hy)⟩
 unfold reachBytes EH IntKind.bits at h1
 simp at h1
 omega
theorem WJ {n : aOV} (h : VY aPB n) : n.1.2.length <= 10000000000000 /\ n.2.2.1.length <= 1000000000000000 /\ All8 n.2.2.1 /\ All8 n.2.2.2.2.1 := by
 obtain ⟨⟨_, h1, _⟩, _, h2, _, h3, _⟩ := h
 refine ⟨?_, (aMH h2).1, (aMH h2).2, (aMH h3).2⟩
 unfold reachBytes at h1
 have e : EH aOz = 49 := by decide
 rw [e] at h1
 have h1 : n.1.2.length * 49 <= _ := h1
 omega
end Go.Proofs.Ytbenbhdagmnapaa

namespace Go.Proofs.Ytbenbhdagmnapaa
open Go.Mach Go.RowKit
set_option maxRecDepth 100000
set_option linter.unusedVariables false
set_option linter.unusedSimpArgs false
theorem aNa {l : List Int} {K0 K1 : Unit -> Prop} (hl : l.length <= 1000000) (h : if -128 ∈ l then K1 () else K0 ()) : iW l (l.length : Int) K0 K1 0 := by
 refine ⟨?_⟩
 refine Loop.range (B := g0 l (l.length : Int) K0 K1) l.length (fun i => (i : Int)) (fun i => ∀ j, j < i -> l.getD j 0 ≠ -128) (fun j hj => absurd hj (by omega)) ?_ ?_
 ·intro i hi hI X hX
  unfold g0
  rw [if_pos (decide_eq_true (show (i : Int) < (l.length : Int) by omega))]
  refine ⟨by omega, ?_⟩
  rw [Int.toNat_natCast]
  have hget : l.getD i 0 = l[i] := by rw [List.getD_eq_getElem?_getD, List.getElem?_eq_getElem hi]; rfl
  by_cases hv : l.getD i 0 = -128
  ·rw [if_pos (by rw [hv]; rfl)]
   rw [if_pos (by rw [<- hv, hget]; exact List.getElem_mem hi)] at h
   exact h
  ·rw [if_neg (by simpa using hv), aB _ (by omega) (by omega)]
   refine hX fun j hj => ?_
   by_cases hji : j = i
   ·subst hji; exact hv
   ·exact hI j (by omega)
 ·intro hI X
  unfold g0
  rw [if_neg (by simp)]
  rw [if_neg] at h
  ·exact h
  ·intro hm
   obtain ⟨j, hj, e⟩ := List.getElem_of_mem hm
   apply hI j hj
   rw [List.getD_eq_getElem?_getD, List.getElem?_eq_getElem hj, <- e]; rfl
theorem aOH (e : Int) : aBq e 64 = !(decide (e < -64) || decide (64 < e)) := by
 unfold aBq
 rw [aB (0 - 64) (by omega) (by omega), Bool.eq_iff_iff]
 simp only [Bool.and_eq_true, decide_eq_true_eq, Bool.not_eq_true', Bool.or_eq_false_iff, decide_eq_false_iff_not]
 omega
theorem aNB {a : T3} {Q : Bool -> Prop} (h : Q (dY a)) : sJ a Q := by
  refine ⟨?_⟩
  unfold zG
  refine GY ?_
  unfold dY at h
  have key : ∀ v : Bool, v = !(decide (0 < szF a.1) && ((a.2.2.length : Int) == szF a.1)) -> (if ((v || decide (a.2.1 < -64)) || decide (64 < a.2.1)) = true then Q false else iW a.2.2 (a.2.2.length : Int) (fun _ => Q true) (fun _ => Q false) 0) := by
    intro v hv
    rw [aOH] at h
    have hle := OT a.1
    by_cases hc : ((v || decide (a.2.1 < -64)) || decide (64 < a.2.1)) = true
    · rw [if_pos hc]
      have : (((decide (0 < szF a.1) && ((a.2.2.length : Int) == szF a.1)) && !(decide (a.2.1 < -64) || decide (64 < a.2.1))) && !decide (-128 ∈ a.2.2)) = false := by
        rw [Bool.or_assoc] at hc
        cases hv2 : v with
        | true =>
          rw [hv2] at hv
          cases hq : (decide (0 < szF a.1) && ((a.2.2.length : Int) == szF a.1)) with
          | true => rw [hq] at hv; cases hv
          | false => rfl
        | false =>
          rw [hv2, Bool.false_or] at hc
          rw [hc]; simp
      rw [this] at h; exact h
    · rw [if_neg hc]
      simp only [Bool.or_eq_true, not_or] at hc
      have hv0 : v = false := by simpa using hc.1.1
      rw [hv0] at hv
      have hv' : (decide (0 < szF a.1) && ((a.2.2.length : Int) == szF a.1)) = true := by
        cases hq : (decide (0 < szF a.1) && ((a.2.2.length : Int) == szF a.1)) with
        | true => rfl
        | false => rw [hq] at hv; cases hv
      have hlen : a.2.2.length <= 1000000 := by
        simp only [Bool.and_eq_true, decide_eq_true_eq, beq_iff_eq] at hv'
        omega
      refine aNa hlen ?_
      have e1 : decide (a.2.1 < -64) = false := by simpa using hc.1.2
      have e2 : decide (64 < a.2.1) = false := by simpa using hc.2
      rw [hv', e1, e2] at h
      by_cases hm : -128 ∈ a.2.2
      · rw [if_pos hm]; simpa [hm] using h
      · rw [if_neg hm]; simpa [hm] using h
  show (if (!decide (0 < szF a.1)) = true then _ else _)
  by_cases hp : 0 < szF a.1
  · rw [if_neg (by simp [hp])]
    refine XI ?_
    exact key _ (by rw [decide_eq_true hp]; unfold bne; rw [Bool.true_and])
  · rw [if_pos (by simp [hp])]
    exact key true (by rw [decide_eq_false hp]; rfl)
end Go.Proofs.Ytbenbhdagmnapaa

namespace Go.Proofs.Ytbenbhdagmnapaa
open Go.Mach
set_option maxRecDepth 100000
set_option linter.unusedVariables false
set_option linter.unusedSimpArgs false
theorem RH : ∀ (r : List Lay) (i : Int) (l : List (List Int)) (k : Nat), (bG r i l).2.2 = 0 -> k <= r.length -> (bG (r.take k) i l).2.2 = 0 /\ ∃ t, (bG r i l).1 = (bG (r.take k) i l).1 ++ t /\ (bG (r.take k) i l).1.length = l.length + k
  | r, i, l, 0, h, _ => by
    refine ⟨by simp [bG], ?_⟩
    have key : ∀ (r : List Lay) (i : Int) (l : List (List Int)), (bG r i l).2.2 = 0 -> ∃ t, (bG r i l).1 = l ++ t := by
      intro r
      induction r with
      | nil => intro i l h; exact ⟨[], by simp [bG]⟩
      | cons x r ih =>
        intro i l h
        rw [bG] at h ⊢
        split at h
        · exact absurd (show (2 : Int) = 0 from h) (by decide)
        rename_i h1
        rw [if_neg h1]
        split at h
        · exact absurd (show (1 : Int) = 0 from h) (by decide)
        rename_i h2
        rw [if_neg h2]
        obtain ⟨t, ht⟩ := ih _ _ h
        exact ⟨_ :: t, by rw [ht, List.append_assoc]; rfl⟩
    obtain ⟨t, ht⟩ := key r i l h
    exact ⟨t, by simp [bG, ht], by simp [bG]⟩
  | [], i, l, k + 1, h, hk => by simp at hk
  | x :: r, i, l, k + 1, h, hk => by
    rw [List.take_succ_cons]
    rw [bG] at h ⊢
    rw [bG]
    split at h
    · exact absurd (show (2 : Int) = 0 from h) (by decide)
    rename_i h1
    rw [if_neg h1, if_neg h1]
    split at h
    · exact absurd (show (1 : Int) = 0 from h) (by decide)
    rename_i h2
    rw [if_neg h2, if_neg h2]
    obtain ⟨k1, t, k2, k3⟩ := RH r (i + 1) _ k h (by simpa using hk)
    exact ⟨k1, t, k2, by rw [k3]; simp; omega⟩
theorem GL {α : Type} {l : List α} {k i : Nat} {d : α} (h : i < k) : (l.take k).getD i d = l.getD i d := by
 rw [List.getD_eq_getElem?_getD, List.getD_eq_getElem?_getD, List.getElem?_take_of_lt h]
theorem aJv {m : Mdl} (h : pT m = true) {k : Nat} (h1 : 1 <= k) (h2 : k <= m.2.length) : pT (m.1, m.2.take k) = true := by
 obtain ⟨_, ⟨k1, k2⟩, k3⟩ := k8 h
 unfold pT at h ⊢
 simp only [Bool.and_eq_true] at h ⊢
 have e : (m.2.take k).length = k := by simp; omega
 refine ⟨⟨h.1.1, by rw [e]; unfold inP; simp only [Bool.and_eq_true, decide_eq_true_eq]; omega⟩, ?_⟩
 unfold PX
 rw [List.all_eq_true]
 intro i hi
 have hi : i ∈ List.range (m.2.take k).length := hi
 rw [e] at hi
 have hi := List.mem_range.1 hi
 rw [GL hi]
 exact k3 i (by omega)
theorem XY {m : Mdl} (h : (aO m).2.2 = 0) {k : Nat} (h1 : 1 <= k) (h2 : k <= m.2.length) : (aO (m.1, m.2.take k)).2.2 = 0 /\ ∀ i, i <= k -> (aO (m.1, m.2.take k)).1.getD i [] = (aO m).1.getD i [] := by
 obtain ⟨hm, _⟩ := t6 h
 have hk := aJv hm h1 h2
 have e1 := JN hm
 have e2 := JN hk
 have e3 : inL (m.1, m.2.take k) = inL m := rfl
 rw [e3] at e2
 rw [e1] at h ⊢
 rw [e2]
 obtain ⟨a, t, b, c⟩ := RH m.2 0 [inL m] k h h2
 refine ⟨a, fun i hi => ?_⟩
 rw [b, List.getD_eq_getElem?_getD, List.getD_eq_getElem?_getD, List.getElem?_append_left (by show i < (bG (m.2.take k) 0 [inL m]).1.length; rw [c]; simp; omega)]
theorem aJO {m : Mdl} (h : (aO m).2.2 = 0) {k i : Nat} (h2 : k <= m.2.length) (hi : i < k) : BG (m.1, m.2.take k) ((i : Int) + 1) = BG m ((i : Int) + 1) := by
 obtain ⟨a, b⟩ := XY h (by omega) h2
 have e : (m.2.take k).length = k := by simp; omega
 unfold BG
 rw [a, h]
 dsimp only
 rw [e]
 have q1 : (((0 : Int) != 0) || decide ((i : Int) + 1 < 1) || decide ((k : Int) < (i : Int) + 1)) = false := by simp; omega
 have q2 : (((0 : Int) != 0) || decide ((i : Int) + 1 < 1) || decide ((m.2.length : Int) < (i : Int) + 1)) = false := by simp; omega
 rw [q1, q2, show ((i : Int) + 1 - 1).toNat = i by omega, GL hi, b i (by omega)]
theorem aJ3 {m : Mdl} {ps : List Prm} (h : GM m ps = true) {k : Nat} (h1 : 1 <= k) (h2 : k <= m.2.length) : GM (m.1, m.2.take k) (ps.take k) = true := by
 obtain ⟨_, hl⟩ := aIh h
 unfold GM at h ⊢
 simp only [Bool.and_eq_true, beq_iff_eq] at h ⊢
 obtain ⟨⟨a, b⟩, c⟩ := h
 refine ⟨⟨(XY a h1 h2).1, by simp; omega⟩, ?_⟩
 unfold aFG at c ⊢
 rw [List.all_eq_true] at c ⊢
 intro i hi
 have hi : i < k := by have := List.mem_range.1 hi; simp at this; omega
 have := c i (List.mem_range.2 (by omega))
 dsimp only
 rw [GL hi, GL hi, aJO a h2 hi]
 exact this
theorem aDA {ps : List Prm} {s st : Int} : ∀ (r : List Lay) (i : Nat) (a : Act) (k n : Nat), (oG ps s st r i a).2.2 = 0 -> TenMay a.1 -> k <= r.length -> i + k <= n -> (oG (ps.take n) s st (r.take k) i a).2.2 = 0 /\ ∃ t, (oG ps s st r i a).1.1 = (oG (ps.take n) s st (r.take k) i a).1.1 ++ t
  | r, i, a, 0, n, h, hm, _, _ => by
    obtain ⟨⟨t, h1, _⟩, _⟩ := aCV r i a h hm
    exact ⟨by simp [oG], t, by simp [oG, h1]⟩
  | [], i, a, k + 1, n, h, _, hk, _ => by simp at hk
  | x :: r, i, a, k + 1, n, h, hm, hk, hn => by
    rw [List.take_succ_cons]
    unfold oG at h ⊢
    rw [GL (show i < n by omega)]
    split at h
    · rename_i he
      exact absurd h (by simpa using he)
    rename_i he
    have he' : (vR x (ps.getD i j9) a.1 s (aEd st ((i : Int) + 1) 0)).2.2 = 0 := by simpa using he
    rw [if_neg he, if_neg he]
    refine aDA r (i + 1) _ k n h ?_ (by simpa using hk) (by omega)
    intro t ht
    rcases List.mem_append.1 ht with ht | ht
    · exact hm t ht
    · rw [List.mem_singleton.1 ht]; exact aFw he'
theorem aKq {n : aOV} {sd st k : Int} {Q : Bool -> Prop} (hl : n.1.2.length <= 10000000000000) (hb : n.2.2.1.length <= 1000000000000000) (b8 : All8 n.2.2.1) (x8 : All8 n.2.2.2.2.1) (h : Q true) : nV n sd st k Q := by
  refine ⟨?_⟩
  unfold lE
  split
  · exact aCC h
  rename_i hn
  have hn := Bool.eq_false_iff.2 hn
  simp only [Bool.or_eq_false_iff, decide_eq_false_iff_not] at hn
  refine aOd hl hb b8 x8 fun ps x e he => ?_
  dsimp only
  split
  · exact aCC h
  rename_i he0
  obtain ⟨p1, p2, p3, _⟩ := he (by simpa using he0)
  have p1 : ps.length = n.1.2.length := p1
  have eu : IntKind.u64.wrap (IntKind.i64.wrap ((n.1.2.length : Int) - 1)) = ((n.1.2.length - 1 : Nat) : Int) := by
    rw [aB _ (by omega) (by omega)]
    simp only [IntKind.wrap, IntKind.bits, IntKind.signed]
    simp
    omega
  rw [eu]
  refine ⟨by omega, ?_⟩
  obtain ⟨j, ej, hj⟩ := aP6 k ((n.1.2.length - 1 : Nat) : Int) (by omega) (by omega)
  rw [ej, aB (1 + (j : Int)) (by omega) (by omega)]
  obtain ⟨q, hq⟩ : ∃ q : Nat, (1 + (j : Int)) = q /\ 1 <= q /\ q <= n.1.2.length - 1 := ⟨1 + j, by omega, by omega, by omega⟩
  rw [hq.1]
  refine ⟨?_⟩
  unfold jH
  refine ⟨by decide, aNt hl p2 p3 ⟨⟨(by intro e; rw [e] at hn; simp at hn), by omega, by omega, by omega⟩, ⟨trivial, by omega, by omega, by omega⟩, ?_⟩⟩
  generalize IntKind.i64.wrap ((IntKind.u64.wrap st).tmod 1000) = st'
  have e1 : (n.1.2.take (q : Int).toNat).drop (0 : Int).toNat = n.1.2.take q := by simp
  have e2 : (ps.take (q : Int).toNat).drop (0 : Int).toNat = ps.take q := by simp
  rw [e1, e2]
  refine aNt (m := (n.1.1, n.1.2.take q)) (by simp; omega) (fun p hp => p2 p (List.mem_of_mem_take hp)) p3 ?_
  show fV (q : Int) (zB n.1 ps x sd st').2.2 (zB (n.1.1, n.1.2.take q) (ps.take q) x sd st').2.2 n.1.2 (zB n.1 ps x sd st').1.1 (zB (n.1.1, n.1.2.take q) (ps.take q) x sd st').1.1 (fun y6 => Q y6)
  refine ⟨?_⟩
  unfold jP
  split
  · rename_i hf
    have hf : (zB n.1 ps x sd st').2.2 ≠ 0 := by simpa using hf
    rw [aLl hf]
    refine EY (b := (((([] : List T3).length : Int)) == 0)) (c := true) (fun _ P hP => aCC hP) (fun v e => ?_) rfl
    rw [e]
    exact h
  · rename_i hf
    have hf : (zB n.1 ps x sd st').2.2 = 0 := by simpa using hf
    obtain ⟨a1, a2⟩ := aGC hf
    obtain ⟨⟨g1, g2, g3, g4, g5⟩, eA⟩ := aKW hf
    have gm := aJ3 g1 hq.2.1 (by omega)
    have eB : zB (n.1.1, n.1.2.take q) (ps.take q) x sd st' = oG (ps.take q) sd st' (n.1.2.take q) 0 ([x], [[]]) := by
      unfold zB
      have q1 : ((!inP st' 0 1000000 || !GM (n.1.1, n.1.2.take q) (ps.take q)) || !dY x) = false := by rw [g5, gm, g2]; rfl
      have q2 : (((x.1.length : Int) != 4) || !decide (x.1.drop 1 = inL (n.1.1, n.1.2.take q))) = false := by
        have e3 : inL (n.1.1, n.1.2.take q) = inL n.1 := rfl
        rw [e3, decide_eq_true g4, g3]; rfl
      rw [q1, q2]
      rfl
    obtain ⟨b1, t, b2⟩ := aDA (ps := ps) (s := sd) (st := st') n.1.2 0 ([x], [[]]) q q (by rw [<- eA]; exact hf) (fun t ht => by rw [List.mem_singleton.1 ht]; exact g2) (by omega) (by omega)
    rw [<- eB] at b1 b2
    rw [<- eA] at b2
    obtain ⟨c1, c2⟩ := aGC b1
    have c1 : (zB (n.1.1, n.1.2.take q) (ps.take q) x sd st').1.1.length = q + 1 := by rw [c1]; simp; omega
    rw [if_neg (by
      rw [aB _ (by omega) (by omega), aB _ (by omega) (by omega)]
      simp only [Bool.or_eq_true, aPM]
      omega)]
    refine ⟨?_⟩
    refine Loop.range (B := cK ((zB (n.1.1, n.1.2.take q) (ps.take q) x sd st').1.1.length : Int) _ _ _ _) (zB (n.1.1, n.1.2.take q) (ps.take q) x sd st').1.1.length (fun i => (i : Int)) (fun _ => True) trivial ?_ ?_
    · intro i hi _ X hX
      unfold cK
      rw [if_pos (decide_eq_true (show (i : Int) < ((zB (n.1.1, n.1.2.take q) (ps.take q) x sd st').1.1.length : Int) by omega))]
      refine ⟨by omega, by omega, ?_⟩
      simp only [Int.toNat_natCast]
      have key : (zB n.1 ps x sd st').1.1.getD i Z3 = (zB (n.1.1, n.1.2.take q) (ps.take q) x sd st').1.1.getD i Z3 := by
        rw [b2, List.getD_eq_getElem?_getD, List.getD_eq_getElem?_getD, List.getElem?_append_left hi]
      refine aMb a2 (by omega) ?_
      rw [decide_eq_true key]
      refine XT (b := !true) (c := false) (fun _ P hP => ⟨by omega, aNB (by show P (!dY ((zB (n.1.1, n.1.2.take q) (ps.take q) x sd st').1.1.getD i Z3)); rw [c2.at_ hi]; exact hP)⟩) (fun v e => ?_) rfl
      rw [e, if_neg (by simp), aB _ (by omega) (by omega)]
      exact hX trivial
    · intro _ X
      unfold cK
      rw [if_neg (by simp)]
      exact aCC h
end Go.Proofs.Ytbenbhdagmnapaa
