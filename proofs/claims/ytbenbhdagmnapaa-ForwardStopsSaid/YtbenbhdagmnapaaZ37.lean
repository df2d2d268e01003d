/- Part of the proof. No condition. -/
import Derived.Test.YtbenbhdagmnapaaZ36
import Derived.Test.YtbenbhdagmnapaaZ35
import Derived.Test.YtbenbhdagmnapaaZ34
import Derived.Test.YtbenbhdagmnapaaProg
import Derived.KernelRfl
namespace Go.Proofs.Ytbenbhdagmnapaa
open Go.Mach Go.RowKit
set_option maxRecDepth 100000
set_option linter.unusedVariables false
set_option linter.unusedSimpArgs false
theorem aMZ (x : Int) : 0 <= IntKind.u8.wrap x /\ IntKind.u8.wrap x < 256 := by
 simp only [IntKind.wrap, IntKind.bits, IntKind.signed]
 simp
 omega
def shF (a : Int) : Int := aP 0 (bF a 62)
theorem aK5 (a : Int) : 0 <= shF a /\ shF a <= 62 := by
 unfold shF aP bF
 split <;> split <;> omega
def b32 (a : Int) : Int := aP 1 (bF a 32)
theorem aNC (a : Int) : 1 <= b32 a /\ b32 a <= 32 := by
 unfold b32 aP bF
 split <;> split <;> omega
def aOp (a : Int) : Int := IntKind.i64.wrap ((IntKind.i64.wrap (1 * 2 ^ (min (IntKind.i64.wrap (b32 a - 1)).toNat (IntKind.i64).bits))) - 1)
def clF (a b : Int) : Int := aP (IntKind.i64.wrap (0 - aOp b)) (bF (O3 a) (aOp b))
theorem aMt {a : Int} {Q : Int -> Prop} (h : Q (shF a)) : QC a Q := ⟨aKD h⟩
theorem aNG {a b : Int} {Q : Int -> Prop} (h : Q (clF a b)) : O2 a b Q := by
 refine ⟨aKD ⟨?_, aKV (aHN h)⟩⟩
 have := aNC b
 show 0 <= IntKind.i64.wrap (b32 b - 1)
 rw [aB _ (by omega) (by omega)]
 omega
theorem aL9 (a : Int) : -4611686018427387904 <= O3 a /\ O3 a <= 4611686018427387904 := by
 unfold O3 aP bF
 split <;> split <;> omega
def chF (a s r : Int) : Int := (IntKind.i64.wrap (O3 a + (IntKind.i64.wrap (IntKind.u64.wrap ((BitVec.ofInt (IntKind.u64).bits r &&& BitVec.ofInt (IntKind.u64).bits (IntKind.u64.wrap ((IntKind.u64.wrap (1 * 2 ^ (min (shF s).toNat (IntKind.u64).bits))) - 1))).toNat : Nat))))).fdiv (2 ^ (min (shF s).toNat (IntKind.i64).bits))
theorem aL0 {a s r : Int} {Q : Int -> Prop} (h : Q (chF a s r)) : I8 a s r Q := ⟨aMt (aKV ⟨(aK5 s).1, (aK5 s).1, h⟩)⟩
theorem aLa {a r : Int} : chF a 0 r = O3 a := by
 have e : BitVec.ofInt (IntKind.u64).bits (IntKind.u64.wrap ((IntKind.u64.wrap (1 * 2 ^ (min (shF 0).toNat (IntKind.u64).bits))) - 1)) = 0#(IntKind.u64).bits := by decide +kernel
 have e2 : (2 : Int) ^ (min (shF 0).toNat (IntKind.i64).bits) = 1 := by decide +kernel
 unfold chF
 rw [e, e2, BitVec.and_zero]
 have h := aL9 a
 have e3 : IntKind.i64.wrap (IntKind.u64.wrap ((0#(IntKind.u64).bits).toNat : Nat)) = 0 := by decide +kernel
 rw [e3, Int.add_zero, aB _ (by omega) (by omega), Int.fdiv_one]
def l31 (x n : Int) : Int := IntKind.i64.wrap (n + (IntKind.i64.wrap ((EA.data.toList.getD (IntKind.u8.wrap x).toNat 0).toNat : Nat)))
def l15 (x n : Int) : Int := if 256 <= x then l31 (x.fdiv (2 ^ (min ((8 : Int)).toNat (IntKind.u64).bits))) (IntKind.i64.wrap (n + 8)) else l31 x n
def l7 (x n : Int) : Int := if 65536 <= x then l15 (x.fdiv (2 ^ (min ((16 : Int)).toNat (IntKind.u64).bits))) (IntKind.i64.wrap (n + 16)) else l15 x n
def aOn (x : Int) : Int := if 4294967296 <= x then l7 (x.fdiv (2 ^ (min ((32 : Int)).toNat (IntKind.u64).bits))) 32 else l7 x 0
theorem aMk : EA.size = 256 := by decide +kernel
theorem aNy {x n : Int} {K : Int -> Prop} (h : K (l31 x n)) : l4 x n K := by
 refine ⟨⟨?_, h⟩⟩
 rw [aMk]
 exact ⟨(aMZ x).1, (aMZ x).2⟩
theorem aNu {x n : Int} {K : Int -> Prop} (h : K (l15 x n)) : lZ x n K := by
 refine ⟨?_⟩
 unfold zJ
 unfold l15 at h
 by_cases e : 256 <= x
 ·rw [if_pos e] at h
  rw [if_pos (by simpa using e)]
  exact ⟨by decide, aNy h⟩
 ·rw [if_neg e] at h
  rw [if_neg (by simpa using e)]
  exact aNy h
theorem aPG {x n : Int} {K : Int -> Prop} (h : K (l7 x n)) : l8 x n K := by
 refine ⟨?_⟩
 unfold yZ
 unfold l7 at h
 by_cases e : 65536 <= x
 ·rw [if_pos e] at h
  rw [if_pos (by simpa using e)]
  exact ⟨by decide, aNu h⟩
 ·rw [if_neg e] at h
  rw [if_neg (by simpa using e)]
  exact aNu h
theorem aOx {x : Int} {K : Int -> Prop} (h : K (aOn x)) : AO x K := by
 refine ⟨?_⟩
 unfold EU
 unfold aOn at h
 by_cases e : 4294967296 <= x
 ·rw [if_pos e] at h
  rw [if_pos (by simpa using e)]
  exact ⟨by decide, aPG h⟩
 ·rw [if_neg e] at h
  rw [if_neg (by simpa using e)]
  exact aPG h
def aOC (a : Int) : Int := aOn (IntKind.u64.wrap (aP (O3 a) (IntKind.i64.wrap (0 - O3 a))))
theorem aO4 {a : Int} {Q : Int -> Prop} (h : Q (aOC a)) : UQ a Q := ⟨aKV (aOx (K := Q) h)⟩
theorem aJf (a : Int) : ∃ v, ∀ Q : Int -> Prop, Q v -> PN a Q := ⟨_, fun Q h => ⟨⟨by decide, by decide, by decide, h⟩⟩⟩
theorem aNr (a b c : Int) : ∃ v, ∀ Q : Int -> Prop, Q v -> aCF a b c Q := by
 obtain ⟨v1, h1⟩ := aJf a
 obtain ⟨v2, h2⟩ := aJf (IntKind.u64.wrap ((BitVec.ofInt (IntKind.u64).bits v1 ^^^ BitVec.ofInt (IntKind.u64).bits b).toNat : Nat))
 obtain ⟨v3, h3⟩ := aJf (IntKind.u64.wrap ((BitVec.ofInt (IntKind.u64).bits v2 ^^^ BitVec.ofInt (IntKind.u64).bits c).toNat : Nat))
 exact ⟨v3, fun Q h => ⟨h1 _ (h2 _ (h3 _ h))⟩⟩
noncomputable def atF (a b c : Int) : Int := Classical.choose (aNr a b c)
theorem aP7 {a b c : Int} {Q : Int -> Prop} (h : Q (atF a b c)) : aCF a b c Q := Classical.choose_spec (aNr a b c) Q h
def u5 (a : List Int × Int × List Int) : Bool := (decide (0 < szF a.1) && ((a.2.2.length : Int) == szF a.1)) && aBq a.2.1 128
theorem aHm {a : List Int × Int × List Int} {Q : Bool -> Prop} (h : Q (u5 a)) : yF a Q := by
  refine ⟨aDx ?_⟩
  unfold jn
  dsimp only
  unfold u5 at h
  cases hb : decide (0 < szF a.1) with
  | true =>
    rw [hb] at h
    rw [if_pos rfl]
    refine Y2 ?_
    cases hc : ((a.2.2.length : Int) == szF a.1) with
    | true =>
      rw [hc] at h
      rw [if_pos rfl]
      exact aMX h
    | false =>
      rw [hc] at h
      rw [if_neg (by simp)]
      exact h
  | false =>
    rw [hb] at h
    rw [if_neg (by simp), if_neg (by simp)]
    exact h
theorem OH {a : List Int × Int × List Int} (h : u5 a = true) : 0 < szF a.1 /\ (a.2.2.length : Int) = szF a.1 /\ a.1 ≠ [] /\ a.1.length <= 4 /\ a.2.2.length <= 8192 := by
 unfold u5 at h
 simp only [Bool.and_eq_true, decide_eq_true_eq, beq_iff_eq] at h
 obtain ⟨⟨h1, h2⟩, _⟩ := h
 have h3 := OT a.1
 refine ⟨h1, h2, ?_, ?_, by omega⟩
 ·intro e; rw [e] at h1; exact absurd h1 (by decide)
 ·unfold szF at h1
  split at h1
  ·omega
  ·rename_i hn
   simp only [Bool.or_eq_true, decide_eq_true_eq, not_or] at hn
   omega
def aID (l : List Int) : Int := l.foldl (fun m x => aP m (aOC (IntKind.i64.wrap x))) 0
theorem aJ7 (l : List Int) (i : Nat) (h : i < l.length) : aID (l.take (i + 1)) = aP (aID (l.take i)) (aOC (IntKind.i64.wrap (l.getD i 0))) := by
 unfold aID
 rw [List.take_add_one, List.foldl_append, List.getD_eq_getElem?_getD, List.getElem?_eq_getElem h]
 rfl
def aJ5 (a : List Int × Int × List Int) : Int := if u5 a = true then aID a.2.2 else 0
theorem aNF {a : List Int × Int × List Int} {Q : Int -> Prop} (h : Q (aJ5 a)) : IX a Q := by
  refine ⟨aHm (a := a) ?_⟩
  unfold aJ5 at h
  cases hm : u5 a with
  | false =>
    rw [hm] at h
    exact h
  | true =>
    rw [hm, if_pos rfl] at h
    rw [if_neg (by simp)]
    obtain ⟨_, _, _, _, hlen⟩ := OH hm
    refine ⟨?_⟩
    refine Loop.range (B := nT a.2.2 (a.2.2.length : Int) fun y => Q y) a.2.2.length (fun i => (aID (a.2.2.take i), (i : Int))) (fun _ => True) trivial ?_ ?_
    · intro i hi _ X hX
      unfold nT
      rw [if_pos (by simpa using hi)]
      refine ⟨by simp only []; omega, aO4 ?_⟩
      have := hX trivial
      rw [aJ7 _ _ hi] at this
      simp only [Int.toNat_natCast]
      rw [aB ((i : Int) + 1) (by omega) (by omega)]
      exact this
    · intro _ X
      unfold nT
      rw [if_neg (by simp)]
      simp only [List.take_length]
      exact h
theorem E1 {a : List Int} {Q : List Int -> Prop} (h1 : a.length <= 17592186044416) (h : Q a) : aW a Q := by
 refine ⟨fun e => (by rw [e] at h; exact h), ?_, h⟩
 simp only [List.length_nil]
 omega
theorem aCP {a : List Int} {Q : List Int -> Prop} (h1 : a.length <= 140737488355328) (h : Q a) : iE a Q := by
 refine ⟨fun e => (by rw [e] at h; exact h), ?_, h⟩
 simp only [List.length_nil]
 omega
noncomputable def aHi (b s t sh : Int) (l : List Int) (i : Nat) : Int := IntKind.i8.wrap (clF (chF (IntKind.i64.wrap (l.getD i 0)) sh (atF s t (IntKind.u64.wrap (i : Int)))) b)
noncomputable def aDn (b s t sh : Int) (l : List Int) : List Int := (List.range l.length).map (aHi b s t sh l)
def AL (a : List Int × Int × List Int) (b : Int) : Int := aP 0 (IntKind.i64.wrap (aJ5 a - (IntKind.i64.wrap (b - 1))))
noncomputable def DV (a : List Int × Int × List Int) (b s t : Int) : (List Int × Int × List Int) × Int :=
 if ((!(u5 a) || (decide (b < 2))) || (decide (8 < b))) = true then (([], 0, []), 1)
 else if (!(aBq (IntKind.i64.wrap (a.2.1 + AL a b)) 64)) = true then (([], 0, []), 3)
 else ((a.1, IntKind.i64.wrap (a.2.1 + AL a b), aDn b s t (AL a b) a.2.2), 0)
theorem aKF {a : List Int × Int × List Int} {b s t : Int} {Q : ((List Int × Int × List Int) × Int) -> Prop} (h : Q (DV a b s t)) : JB a b s t Q := by
  refine ⟨?_⟩
  unfold P9
  refine aHm (a := a) ?_
  unfold DV at h
  by_cases e : ((!(u5 a) || (decide (b < 2))) || (decide (8 < b))) = true
  · rw [if_pos e] at h ⊢; exact h
  · rw [if_neg e] at h ⊢
    have hm : u5 a = true := by
      cases hm : u5 a with
      | true => rfl
      | false => exfalso; apply e; rw [hm]; rfl
    obtain ⟨_, _, h3, h4, hlen⟩ := OH hm
    refine aNF (a := a) (E1 (by omega) (aMX ?_))
    show (if (!(aBq (IntKind.i64.wrap (a.2.1 + AL a b)) 64)) = true then _ else _)
    by_cases e2 : (!(aBq (IntKind.i64.wrap (a.2.1 + AL a b)) 64)) = true
    · rw [if_pos e2] at h ⊢; exact h
    · rw [if_neg e2] at h ⊢
      refine ⟨?_⟩
      refine Loop.range (B := nO b s t (AL a b) a.2.2 (a.2.2.length : Int) _) (f := fun i => ((i : Int), (List.range i).map (aHi b s t (AL a b) a.2.2))) a.2.2.length (fun _ => True) trivial ?_ ?_
      · intro i hi _ X hX
        unfold nO
        rw [if_pos (by simpa using hi)]
        refine ⟨by simp only []; omega, aP7 (aL0 (aNG ⟨?_, ?_⟩))⟩
        · simp only [List.length_map, List.length_range, List.length_singleton]
          omega
        · have := hX trivial
          simp only [List.range_succ, List.map_append, List.map_cons, List.map_nil] at this
          simp only [Int.toNat_natCast]
          rw [aB ((i : Int) + 1) (by omega) (by omega)]
          exact this
      · intro _ X
        unfold nO
        rw [if_neg (by simp)]
        exact h
end Go.Proofs.Ytbenbhdagmnapaa

namespace Go.Proofs.Ytbenbhdagmnapaa
open Go.Mach Go.RowKit
set_option maxRecDepth 100000
set_option linter.unusedVariables false
set_option linter.unusedSimpArgs false
theorem aFi {a b : List Int} {Q : Bool -> Prop} (hl : a.length <= 1000000000000000) (h : Q (decide (a = b))) : gO a b Q := by
  refine ⟨?_⟩
  unfold vI
  by_cases e : a.length = b.length
  · rw [if_neg (by simp [e])]
    refine ⟨?_⟩
    refine Loop.range (B := fC a b (a.length : Int) (fun _ => Q true) (fun _ => Q false)) a.length (fun i => (i : Int)) (fun i => ∀ j, j < i -> a.getD j 0 = b.getD j 0) (fun j hj => absurd hj (by omega)) ?_ ?_
    · intro i hi hI X hX
      unfold fC
      rw [if_pos (decide_eq_true (show (i : Int) < (a.length : Int) by omega))]
      refine ⟨by omega, by omega, ?_⟩
      simp only [Int.toNat_natCast]
      by_cases hd : a.getD i 0 = b.getD i 0
      · rw [if_neg (by simpa using hd), aB _ (by omega) (by omega)]
        refine hX fun j hj => ?_
        by_cases hji : j = i
        · subst hji; exact hd
        · exact hI j (by omega)
      · rw [if_pos (by simpa using hd)]
        have : decide (a = b) = false := by
          simp only [decide_eq_false_iff_not]
          intro hab; exact hd (by rw [hab])
        rw [this] at h; exact h
    · intro hI X
      unfold fC
      rw [if_neg (by simp)]
      have : decide (a = b) = true := by
        simp only [decide_eq_true_eq]
        refine List.ext_getElem e fun i h1 h2 => ?_
        have := hI i h1
        rw [List.getD_eq_getElem?_getD, List.getD_eq_getElem?_getD, List.getElem?_eq_getElem h1, List.getElem?_eq_getElem h2] at this
        exact this
      rw [this] at h; exact h
  · rw [if_pos (by simp; omega)]
    have : decide (a = b) = false := by
      simp only [decide_eq_false_iff_not]
      intro hab; exact e (by rw [hab])
    rw [this] at h; exact h
theorem aEU {a b : List Int} {Q : Bool -> Prop} (hl : a.length <= 1000000000000000) (h : Q (decide (a = b))) : jZ a b Q := ⟨aFi hl h⟩
theorem pI {a : T3} (h : dY a = true) : a.1.length <= 4 /\ a.2.2.length <= 8192 /\ 1 <= a.1.length /\ 1 <= a.1.getD 0 0 /\ a.1.getD 0 0 <= 4096 := by
 obtain ⟨h1, h2, _⟩ := jO.1 h
 obtain ⟨h3, h4, _⟩ := WU h1
 have h5 := OT a.1
 refine ⟨h3.2, by omega, h3.1, ?_⟩
 match hA : a.1 with
 | [] => rw [hA] at h3; simp at h3
 | x :: l => exact h4 x (by rw [hA]; simp)
def aCx (t : T3) (d : List Int) : T3 × Int :=
 if dY t = true /\ 0 < szF d then (if szF d = (t.2.2.length : Int) then ((d, t.2.1, t.2.2), 0) else (([], 0, []), 2)) else (([], 0, []), 1)
theorem aMo {t : T3} {d : List Int} {Q : T3 × Int -> Prop} (hd : d.length <= 17592186044416) (h : Q (aCx t d)) : TS t d Q := by
  refine ⟨sB ?_⟩
  unfold jn
  dsimp only
  unfold aCx at h
  cases hm : dY t with
  | false =>
    rw [if_neg (by rw [hm]; simp)] at h
    rw [if_pos (by rfl), if_pos (by rfl)]
    exact h
  | true =>
    rw [if_neg (by simp)]
    refine aDx ?_
    by_cases hs : 0 < szF d
    · rw [if_pos ⟨hm, hs⟩] at h
      rw [decide_eq_true hs, if_neg (by simp)]
      refine Y2 ?_
      by_cases he : szF d = (t.2.2.length : Int)
      · rw [if_pos he] at h
        rw [if_neg (by simp [he])]
        refine E1 hd (aCP ?_ h)
        have := (pI hm).2.1
        omega
      · rw [if_neg he] at h
        rw [if_pos (by simpa using he)]
        exact h
    · rw [if_neg (fun hh => hs hh.2)] at h
      rw [decide_eq_false hs, if_pos (by rfl)]
      exact h
def RQ (t : T3) : T3 × Int := if dY t = true then aCx t [t.1.getD 0 0, IntKind.i64.wrap ((szF t.1).tdiv (t.1.getD 0 0))] else (([], 0, []), 1)
theorem aL5 {t : T3} {Q : T3 × Int -> Prop} (h : Q (RQ t)) : Y3 t Q := by
  refine ⟨sB ?_⟩
  unfold RQ at h
  cases hm : dY t with
  | false =>
    rw [if_neg (by rw [hm]; simp)] at h
    rw [if_pos (by rfl)]
    exact h
  | true =>
    rw [if_pos hm] at h
    rw [if_neg (by simp)]
    obtain ⟨h1, h2, h3, h4, h5⟩ := pI hm
    refine ⟨by omega, Y2 ⟨by omega, ⟨by omega, aMo (by simp) ?_⟩⟩⟩
    exact h
def XE (t : T3) : T3 × Int := if dY t = true then ((t.1, t.2.1, t.2.2.map (aP 0)), 0) else (([], 0, []), 1)
theorem aOi {t : T3} {Q : T3 × Int -> Prop} (h : Q (XE t)) : Y8 t Q := by
  refine ⟨sB ?_⟩
  unfold XE at h
  cases hm : dY t with
  | false =>
    rw [if_neg (by rw [hm]; simp)] at h
    rw [if_pos (by rfl)]
    exact h
  | true =>
    rw [if_pos hm] at h
    rw [if_neg (by simp)]
    obtain ⟨h1, h2, _⟩ := pI hm
    refine ⟨E1 (by dsimp only; omega) ⟨?_⟩⟩
    dsimp only
    refine Loop.range (B := dU t.1 t.2.1 t.2.2 (t.2.2.length : Int) _) t.2.2.length (fun i => ((i : Int), (t.2.2.take i).map (aP 0))) (fun _ => True) trivial ?_ ?_
    · intro i hi _ X hX
      unfold dU
      dsimp only
      rw [if_pos (decide_eq_true (show (i : Int) < (t.2.2.length : Int) by omega))]
      refine ⟨⟨by omega, ?_⟩⟩
      rw [Int.toNat_natCast]
      refine ⟨by simp; omega, ?_⟩
      rw [aB _ (by omega) (by omega)]
      have e : (t.2.2.take i).map (aP 0) ++ [aP 0 (t.2.2.getD i 0)] = (t.2.2.take (i + 1)).map (aP 0) := by
        rw [List.take_add_one, List.getD_eq_getElem?_getD, List.getElem?_eq_getElem hi, List.map_append]
        rfl
      rw [e]
      exact hX trivial
    · intro _ X
      unfold dU
      dsimp only
      rw [if_neg (by simp), List.take_length]
      exact h
def aNU (a b : T3) : Int := aP (bF a.2.1 b.2.1) (IntKind.i64.wrap (aP a.2.1 b.2.1 - 12))
def pM (a b : T3) (i : Nat) : Int := IntKind.i32.wrap (IntKind.i64.wrap (alF (IntKind.i64.wrap (a.2.2.getD i 0)) a.2.1 (aNU a b) + alF (IntKind.i64.wrap (b.2.2.getD i 0)) b.2.1 (aNU a b)))
def aNg (a b : T3) : T3 × Int :=
 if dY a = true /\ dY b = true then (if a.1 = b.1 then ((a.1, aNU a b, (List.range a.2.2.length).map (pM a b)), 0) else (([], 0, []), 2)) else (([], 0, []), 1)
theorem aPS {a b : T3} {Q : T3 × Int -> Prop} (h : Q (aNg a b)) : aG2 a b Q := by
  refine ⟨sB ?_⟩
  unfold jn
  dsimp only
  unfold aNg at h
  cases hm : dY a with
  | false =>
    rw [if_neg (by rw [hm]; simp)] at h
    rw [if_pos (by rfl), if_pos (by rfl)]
    exact h
  | true =>
    rw [if_neg (by simp)]
    refine sB ?_
    cases hn : dY b with
    | false =>
      rw [if_neg (by rw [hn]; simp)] at h
      rw [if_pos (by rfl)]
      exact h
    | true =>
      rw [if_pos ⟨hm, hn⟩] at h
      rw [if_neg (by simp)]
      obtain ⟨h1, h2, _⟩ := pI hm
      obtain ⟨k1, k2, _⟩ := pI hn
      refine aEU (by omega) ?_
      by_cases he : a.1 = b.1
      · rw [if_pos he] at h
        rw [decide_eq_true he, if_neg (by simp)]
        have hlen : a.2.2.length = b.2.2.length := by
          have q1 := (jO.1 hm).2.1
          have q2 := (jO.1 hn).2.1
          rw [he] at q1
          omega
        refine E1 (by omega) ⟨?_⟩
        refine Loop.range (B := BU (a.2.2.length : Int) a.2.1 a.2.2 b.2.1 b.2.2 (aNU a b) _) a.2.2.length (fun i => ((i : Int), (List.range i).map (pM a b))) (fun _ => True) trivial ?_ ?_
        · intro i hi _ X hX
          unfold BU
          dsimp only
          rw [if_pos (decide_eq_true (show (i : Int) < (a.2.2.length : Int) by omega))]
          refine ⟨by omega, ?_⟩
          rw [Int.toNat_natCast]
          refine aN1 ⟨by omega, aN1 ⟨by simp; omega, ?_⟩⟩
          rw [aB ((i : Int) + 1) (by omega) (by omega)]
          have e : (List.range i).map (pM a b) ++ [pM a b i] = (List.range (i + 1)).map (pM a b) := by
            rw [List.range_succ, List.map_append]; rfl
          have := hX trivial
          rw [<- e] at this
          exact this
        · intro _ X
          unfold BU
          dsimp only
          rw [if_neg (by simp)]
          exact h
      · rw [if_neg he] at h
        rw [decide_eq_false he, if_pos (by rfl)]
        exact h
end Go.Proofs.Ytbenbhdagmnapaa

namespace Go.Proofs.Ytbenbhdagmnapaa
open Go.Mach Go.RowKit
set_option maxRecDepth 100000
set_option linter.unusedVariables false
set_option linter.unusedSimpArgs false
abbrev Lay := Int × Int × Int × Int × Int × Int × Bool
abbrev Mdl := (Int × Int × Int) × List Lay
abbrev i5 : Lay := (0, 0, 0, 0, 0, 0, false)
theorem SN {a lo hi : Int} {Q : Bool -> Prop} (h : Q (inP a lo hi)) : mU a lo hi Q := ⟨h⟩
def pH (a : Int × Int × Int) : Bool := (inP a.1 1 8 && inP a.2.1 1 16) && inP a.2.2 1 16
theorem aMG {a : Int × Int × Int} {Q : Bool -> Prop} (h : Q (pH a)) : JY a Q := by
  refine ⟨SN ?_⟩
  unfold jn
  dsimp only
  unfold pH at h
  cases h1 : inP a.1 1 8 with
  | false => rw [h1] at h; rw [if_neg (by simp), if_neg (by simp)]; exact h
  | true =>
    rw [h1] at h
    rw [if_pos rfl]
    refine SN ?_
    cases h2 : inP a.2.1 1 16 with
    | false => rw [h2] at h; rw [if_neg (by simp)]; exact h
    | true => rw [h2] at h; rw [if_pos rfl]; exact SN h
def aJ2 (x : Lay) : Bool := inP x.2.2.1 1 5 && inP x.2.2.2.1 1 4
theorem aLu {x : Lay} {Q : Bool -> Prop} (h : Q (aJ2 x)) : BO x Q := by
 refine ⟨SN ?_⟩
 unfold jn
 dsimp only
 unfold aJ2 at h
 cases h1 : inP x.2.2.1 1 5 with
 | false => rw [h1] at h; rw [if_neg (by simp)]; exact h
 | true => rw [h1] at h; rw [if_pos rfl]; exact SN h
def p6 (x : Lay) (n : Int) : Bool :=
 if x.1 = 1 then inP x.2.1 1 4096 && ((x.2.2.1 == 0) && ((x.2.2.2.1 == 0) && ((x.2.2.2.2.1 == 0) && (x.2.2.2.2.2.1 == 0))))
 else if x.1 = 2 then ((inP x.2.1 1 8 && aJ2 x) && inP x.2.2.2.2.1 0 (IntKind.i64.wrap (x.2.2.1 - 1))) && (x.2.2.2.2.2.1 == 0)
 else if x.1 = 3 \/ x.1 = 4 then aJ2 x && ((x.2.1 == 0) && ((x.2.2.2.2.1 == 0) && ((x.2.2.2.2.2.1 == 0) && (x.2.2.2.2.2.2 == false))))
 else if x.1 = 5 \/ x.1 = 6 then (x.2.1 == 0) && ((x.2.2.1 == 0) && ((x.2.2.2.1 == 0) && ((x.2.2.2.2.1 == 0) && ((x.2.2.2.2.2.1 == 0) && (x.2.2.2.2.2.2 == false)))))
 else if x.1 = 7 then inP x.2.2.2.2.2.1 0 (IntKind.i64.wrap (n - 1)) && ((x.2.1 == 0) && ((x.2.2.1 == 0) && ((x.2.2.2.1 == 0) && ((x.2.2.2.2.1 == 0) && (x.2.2.2.2.2.2 == false)))))
 else false
theorem aE9 {K : Unit -> Prop} (h : K ()) : pO K := ⟨h⟩
theorem aOK {x : Lay} {n : Int} {Q : Bool -> Prop} (h : Q (p6 x n)) : Y4 x n Q := by
  obtain ⟨kd, ou, k, st, pd, fr, fz⟩ := x
  refine ⟨?_⟩
  unfold aBD
  dsimp only
  unfold p6 at h
  dsimp only at h
  by_cases h1 : kd = 1
  · rw [if_pos h1] at h
    rw [if_pos (by simpa using h1)]
    refine SN (aE9 ?_)
    refine cast (congrArg Q ?_) h
    simp
  rw [if_neg h1] at h
  rw [if_neg (by simpa using h1)]
  by_cases h2 : kd = 2
  · rw [if_pos h2] at h
    rw [if_pos (by simpa using h2)]
    refine SN ?_
    unfold jn
    dsimp only
    cases e1 : inP ou 1 8 with
    | false =>
      rw [e1] at h
      rw [if_neg (by simp), if_neg (by simp)]
      refine aE9 (cast (congrArg Q ?_) h)
      simp
    | true =>
      rw [e1] at h
      rw [if_pos rfl]
      refine aLu ?_
      cases e2 : aJ2 (kd, ou, k, st, pd, fr, fz) with
      | false =>
        rw [e2] at h
        rw [if_neg (by simp)]
        refine aE9 (cast (congrArg Q ?_) h)
        simp
      | true =>
        rw [e2] at h
        rw [if_pos rfl]
        refine SN (aE9 (cast (congrArg Q ?_) h))
        simp
  rw [if_neg h2] at h
  rw [if_neg (by simpa using h2)]
  have fin : ∀ {b : Bool} {k' st' fr' : Int}, (b && ((kd == kd) && ((ou == 0) && ((k == k') && ((st == st') && ((pd == 0) && ((fr == fr') && ((fz == false) && (true)))))))))
      = (b && ((ou == 0) && ((k == k') && ((st == st') && ((pd == 0) && ((fr == fr') && (fz == false))))))) := by
    intro b k' st' fr'
    simp
  by_cases h3 : kd = 3
  · rw [if_pos (.inl h3)] at h
    rw [if_pos (by simpa using h3)]
    refine ⟨?_⟩
    unfold DD
    rw [if_pos (by simpa using h3)]
    refine aLu (aE9 (cast (congrArg Q ?_) h))
    rw [fin]
    simp
  rw [if_neg (by simpa using h3)]
  refine ⟨?_⟩
  unfold DD
  by_cases h4 : kd = 4
  · rw [if_pos (.inr h4)] at h
    rw [if_pos (by simpa using h4)]
    refine aLu (aE9 (cast (congrArg Q ?_) h))
    rw [fin]
    simp
  rw [if_neg (by omega)] at h
  rw [if_neg (by simpa using h4)]
  by_cases h5 : kd = 5
  · rw [if_pos (.inl h5)] at h
    rw [if_pos (by simpa using h5)]
    refine ⟨?_⟩
    unfold DA
    rw [if_pos (by simpa using h5)]
    refine aE9 (cast (congrArg Q ?_) h)
    rw [fin]
    simp
  rw [if_neg (by simpa using h5)]
  refine ⟨?_⟩
  unfold DA
  by_cases h6 : kd = 6
  · rw [if_pos (.inr h6)] at h
    rw [if_pos (by simpa using h6)]
    refine aE9 (cast (congrArg Q ?_) h)
    rw [fin]
    simp
  rw [if_neg (by omega)] at h
  rw [if_neg (by simpa using h6)]
  by_cases h7 : kd = 7
  · rw [if_pos h7] at h
    rw [if_pos (by simpa using h7)]
    refine SN (aE9 (cast (congrArg Q ?_) h))
    rw [fin]
    simp
  · rw [if_neg h7] at h
    rw [if_neg (by simpa using h7)]
    refine aE9 (cast (congrArg Q ?_) h)
    simp
def PX (l : List Lay) : Bool := (List.range l.length).all fun i => p6 (l.getD i i5) i
def pT (m : Mdl) : Bool := (pH m.1 && inP (m.2.length : Int) 1 12) && PX m.2
theorem aO5 {m : Mdl} {Q : Bool -> Prop} (hl : m.2.length <= 10000000000000) (h : Q (pT m)) : YS m Q := by
  refine ⟨aMG ?_⟩
  unfold jn
  dsimp only
  unfold pT at h
  cases h1 : pH m.1 with
  | false =>
    rw [h1] at h
    rw [if_pos (by rfl), if_pos rfl]
    exact h
  | true =>
    rw [h1] at h
    rw [if_neg (by simp)]
    refine SN ?_
    cases h2 : inP (m.2.length : Int) 1 12 with
    | false =>
      rw [h2] at h
      rw [if_pos (by rfl)]
      exact h
    | true =>
      rw [h2] at h
      rw [if_neg (by simp)]
      simp only [Bool.true_and] at h
      refine ⟨?_⟩
      refine Loop.range (B := uA m.2 (m.2.length : Int) (fun _ => Q true) (fun _ => Q false)) m.2.length (fun i => (i : Int)) (fun i => ∀ j, j < i -> p6 (m.2.getD j i5) j = true) (fun j hj => absurd hj (by omega)) ?_ ?_
      · intro i hi hI X hX
        unfold uA
        rw [if_pos (decide_eq_true (show (i : Int) < (m.2.length : Int) by omega))]
        refine ⟨by omega, aOK ?_⟩
        simp only [Int.toNat_natCast]
        show if (!p6 (m.2.getD i i5) i) = true then _ else _
        cases hb : p6 (m.2.getD i i5) i with
        | true =>
          rw [if_neg (by simp), aB _ (by omega) (by omega)]
          refine hX fun j hj => ?_
          by_cases hji : j = i
          · subst hji; exact hb
          · exact hI j (by omega)
        | false =>
          rw [if_pos (by rfl)]
          have : PX m.2 = false := by
            unfold PX
            rw [List.all_eq_false]
            exact ⟨i, List.mem_range.2 hi, by rw [hb]; simp⟩
          rw [this] at h
          exact h
      · intro hI X
        unfold uA
        rw [if_neg (by simp)]
        have : PX m.2 = true := by
          unfold PX
          rw [List.all_eq_true]
          intro j hj
          exact hI j (List.mem_range.1 hj)
        rw [this] at h
        exact h
theorem k8 {m : Mdl} (h : pT m = true) : ((1 <= m.1.1 /\ m.1.1 <= 8) /\ (1 <= m.1.2.1 /\ m.1.2.1 <= 16) /\ (1 <= m.1.2.2 /\ m.1.2.2 <= 16)) /\ (1 <= m.2.length /\ m.2.length <= 12) /\ ∀ i, i < m.2.length -> p6 (m.2.getD i i5) i = true := by
 unfold pT pH inP at h
 simp only [Bool.and_eq_true, decide_eq_true_eq] at h
 refine ⟨⟨h.1.1.1.1, h.1.1.1.2, h.1.1.2⟩, by omega, fun i hi => ?_⟩
 have := h.2
 unfold PX at this
 rw [List.all_eq_true] at this
 exact this i (List.mem_range.2 hi)
def AB (l : List Int) : Int := l.foldl (fun a x => IntKind.i64.wrap (a * x)) 1
theorem ZY {l : List Int} {Q : Int -> Prop} (hl : l.length <= 10000000000000) (h : Q (AB l)) : mW l Q := by
 refine ⟨⟨?_⟩⟩
 refine Loop.range (B := mF l (l.length : Int) _) l.length (fun i => (AB (l.take i), (i : Int))) (fun _ => True) trivial ?_ ?_
 ·intro i hi _ X hX
  unfold mF
  dsimp only
  rw [if_pos (decide_eq_true (show (i : Int) < (l.length : Int) by omega))]
  refine ⟨by omega, ?_⟩
  rw [Int.toNat_natCast, aB ((i : Int) + 1) (by omega) (by omega)]
  have e : AB (l.take (i + 1)) = IntKind.i64.wrap (AB (l.take i) * l.getD i 0) := by
   unfold AB
   rw [List.take_add_one, List.foldl_append, List.getD_eq_getElem?_getD, List.getElem?_eq_getElem hi]
   rfl
  rw [<- e]
  exact hX trivial
 ·intro _ X
  unfold mF
  dsimp only
  rw [if_neg (by simp), List.take_length]
  exact h
def kC (d : List Int) (c : Int) (x : Lay) : List Int :=
 if d.length = 3 then (if bR (d.getD 1 0) x.2.2.1 x.2.2.2.1 x.2.2.2.2.1 = 0 \/ bR (d.getD 2 0) x.2.2.1 x.2.2.2.1 x.2.2.2.2.1 = 0 then [] else [c, bR (d.getD 1 0) x.2.2.1 x.2.2.2.1 x.2.2.2.2.1, bR (d.getD 2 0) x.2.2.1 x.2.2.2.1 x.2.2.2.2.1]) else []
theorem aLk {d : List Int} {c : Int} {x : Lay} {Q : List Int -> Prop} (h : Q (kC d c x)) : pK d c x Q := by
 refine ⟨?_⟩
 unfold PI
 unfold kC at h
 by_cases h3 : d.length = 3
 ·rw [if_pos h3] at h
  rw [if_neg (by simp [h3])]
  refine ⟨by omega, aA0 ⟨by omega, aA0 ?_⟩⟩
  by_cases hz : bR (d.getD 1 0) x.2.2.1 x.2.2.2.1 x.2.2.2.2.1 = 0 \/ bR (d.getD 2 0) x.2.2.1 x.2.2.2.1 x.2.2.2.2.1 = 0
  ·rw [if_pos hz] at h
   rw [if_pos (by simpa using hz)]
   exact h
  ·rw [if_neg hz] at h
   rw [if_neg (by simpa using hz)]
   exact ⟨by simp, h⟩
 ·rw [if_neg h3] at h
  rw [if_pos (by simp; omega)]
  exact h
def iU (x : Lay) (l : List (List Int)) (d : List Int) : List Int :=
 if x.1 = 1 then (if d.length = 1 then [x.2.1] else [])
 else if x.1 = 2 then kC d x.2.1 x
 else if x.1 = 3 \/ x.1 = 4 then kC d (d.getD 0 0) x
 else if x.1 = 5 then d
 else if x.1 = 6 then [AB d]
 else if x.1 = 7 then (if l.getD x.2.2.2.2.2.1.toNat [] = d then d else [])
 else []
theorem aNY {x : Lay} {l : List (List Int)} {Q : List Int -> Prop} (hl : l ≠ []) (hn : l.length <= 1000000) (hd : (l.getD (l.length - 1) []) ≠ []) (hb : ∀ d ∈ l, d.length <= 1000000) (hx : x.1 = 7 -> 0 <= x.2.2.2.2.2.1 /\ x.2.2.2.2.2.1 < (l.length : Int))
    (h : Q (iU x l (l.getD (l.length - 1) []))) : N9 x l Q := by
  have hlen : 1 <= l.length := List.length_pos_iff.2 hl
  have hw : IntKind.i64.wrap ((l.length : Int) - 1) = ((l.length - 1 : Nat) : Int) := by rw [aB _ (by omega) (by omega)]; omega
  have hdb : (l.getD (l.length - 1) []).length <= 1000000 := by
    rw [List.getD_eq_getElem?_getD, List.getElem?_eq_getElem (by omega)]
    exact hb _ (List.getElem_mem _)
  refine ⟨?_⟩
  unfold SQ
  rw [hw]
  simp only [Int.toNat_natCast]
  refine ⟨by omega, ?_⟩
  obtain ⟨d, hde⟩ : ∃ d, l.getD (l.length - 1) [] = d := ⟨_, rfl⟩
  simp only [hde] at h hd hdb ⊢
  have hd0 : 0 < (d.length : Int) := by have := List.length_pos_iff.2 hd; omega
  have pl : ∀ c, Q (kC d c x) -> pK d c x (fun r => nz r (Q []) (ck (r ≠ []) (Q r))) := by
    intro c hq
    refine aLk ⟨fun e => ?_, fun e => ⟨e, hq⟩⟩
    rw [e] at hq; exact hq
  unfold iU at h
  by_cases h1 : x.1 = 1
  · rw [if_pos h1] at h
    rw [if_pos (by simpa using h1)]
    by_cases h11 : d.length = 1
    · rw [if_pos h11] at h
      rw [if_pos (by simp [h11])]
      exact ⟨by simp, h⟩
    · rw [if_neg h11] at h
      rw [if_neg (by simp; omega)]
      exact h
  rw [if_neg h1] at h
  rw [if_neg (by simpa using h1)]
  by_cases h2 : x.1 = 2
  · rw [if_pos h2] at h
    rw [if_pos (by simpa using h2)]
    exact pl _ h
  rw [if_neg h2] at h
  rw [if_neg (by simpa using h2)]
  by_cases h3 : x.1 = 3
  · rw [if_pos (.inl h3)] at h
    rw [if_pos (by simpa using h3), if_pos (by simpa using h3)]
    exact ⟨by omega, pl _ h⟩
  rw [if_neg (by simpa using h3)]
  by_cases h4 : x.1 = 4
  · rw [if_pos (.inr h4)] at h
    rw [if_pos (by simpa using h4)]
    exact ⟨by omega, pl _ h⟩
  rw [if_neg (by omega)] at h
  rw [if_neg (by simpa using h4)]
  by_cases h5 : x.1 = 5
  · rw [if_pos h5] at h
    rw [if_pos (by simpa using h5)]
    exact E1 (by omega) ⟨hd, h⟩
  rw [if_neg h5] at h
  rw [if_neg (by simpa using h5)]
  by_cases h6 : x.1 = 6
  · rw [if_pos h6] at h
    rw [if_pos (by simpa using h6)]
    exact ZY (by omega) ⟨by simp, h⟩
  rw [if_neg h6] at h
  rw [if_neg (by simpa using h6)]
  by_cases h7 : x.1 = 7
  · rw [if_pos h7] at h
    rw [if_pos (by simpa using h7)]
    obtain ⟨f1, f2⟩ := hx h7
    refine ⟨⟨f1, f2⟩, aFi ?_ ?_⟩
    · rw [List.getD_eq_getElem?_getD, List.getElem?_eq_getElem (by omega)]
      have := hb _ (List.getElem_mem (l := l) (n := x.2.2.2.2.2.1.toNat) (by omega))
      simp only [Option.getD_some]
      omega
    · by_cases he : l.getD x.2.2.2.2.2.1.toNat [] = d
      · rw [if_pos he] at h
        rw [decide_eq_true he, if_pos rfl]
        exact E1 (by omega) ⟨hd, h⟩
      · rw [if_neg he] at h
        rw [decide_eq_false he, if_neg (by simp)]
        exact h
  · rw [if_neg h7] at h
    rw [if_neg (by simpa using h7)]
    exact h
end Go.Proofs.Ytbenbhdagmnapaa

namespace Go.Proofs.Ytbenbhdagmnapaa
open Go.Mach Go.RowKit
set_option maxRecDepth 100000
set_option linter.unusedVariables false
set_option linter.unusedSimpArgs false
abbrev Prm := T3 × List Int × T3
abbrev j9 : Prm := (([], 0, []), [], ([], 0, []))
def bG : List Lay -> Int -> List (List Int) -> List (List Int) × Int × Int
  | [], _, l => (l, 0, 0)
  | x :: r, i, l =>
    if iU x l (l.getD (l.length - 1) []) = [] then ([], i + 1, 2)
    else if 8192 < AB (iU x l (l.getD (l.length - 1) [])) then ([], i + 1, 1)
    else bG r (i + 1) (l ++ [iU x l (l.getD (l.length - 1) [])])
def inL (m : Mdl) : List Int := [m.1.1, m.1.2.1, m.1.2.2]
def aO (m : Mdl) : List (List Int) × Int × Int :=
 if pT m = true then (if 8192 < AB (inL m) then ([], 0, 1) else bG m.2 0 [inL m]) else ([], 0, 1)
theorem aAi (d : List Int) (c : Int) (x : Lay) : (kC d c x).length <= 3 := by
 unfold kC
 split
 ·split <;> simp
 ·simp
theorem aDo {x : Lay} {l : List (List Int)} {d : List Int} (hd : d.length <= 3) : (iU x l d).length <= 3 := by
 unfold iU
 split
 ·split <;> simp
 split
 ·exact aAi _ _ _
 split
 ·exact aAi _ _ _
 split
 ·exact hd
 split
 ·simp
 split
 ·split
  ·exact hd
  ·simp
 ·simp
theorem UU {x : Lay} {n : Int} (h : p6 x n = true) (h7 : x.1 = 7) : 0 <= x.2.2.2.2.2.1 /\ x.2.2.2.2.2.1 <= IntKind.i64.wrap (n - 1) := by
 unfold p6 at h
 rw [if_neg (by omega), if_neg (by omega), if_neg (by omega), if_neg (by omega), if_pos h7] at h
 unfold inP at h
 simp only [Bool.and_eq_true, decide_eq_true_eq] at h
 exact h.1
structure ShOk (l : List (List Int)) (n : Nat) : Prop where
 len : l.length = n
 ne : ∀ d ∈ l, d ≠ [] /\ d.length <= 3
theorem ShOk.last {l : List (List Int)} {n : Nat} (h : ShOk l n) (hn : 0 < n) : l.getD (l.length - 1) [] ∈ l := by
 have := h.len
 rw [List.getD_eq_getElem?_getD, List.getElem?_eq_getElem (by omega)]
 exact List.getElem_mem _
theorem ShOk.at_ {l : List (List Int)} {n : Nat} (h : ShOk l n) {i : Nat} (hi : i < n) : l.getD i [] ≠ [] /\ (l.getD i []).length <= 3 := by
 have := h.len
 rw [List.getD_eq_getElem?_getD, List.getElem?_eq_getElem (by omega)]
 exact h.ne _ (List.getElem_mem _)
theorem ShOk.push {l : List (List Int)} {n : Nat} (h : ShOk l n) (hn : 0 < n) {x : Lay} (hg : iU x l (l.getD (l.length - 1) []) ≠ []) : ShOk (l ++ [iU x l (l.getD (l.length - 1) [])]) (n + 1) where
 len := by simp [h.len]
 ne := fun d hd => by
  rcases List.mem_append.1 hd with hd | hd
  ·exact h.ne d hd
  ·rw [List.mem_singleton] at hd
   subst hd
   exact ⟨hg, aDo (h.ne _ (h.last hn)).2⟩
theorem aIE {m : Mdl} {Q : List (List Int) × Int × Int -> Prop} (hl : m.2.length <= 10000000000000) (h : Q (aO m)) : BV m Q := by
  refine ⟨aO5 hl ?_⟩
  unfold aO at h
  show if (!pT m) = true then _ else _
  by_cases hm : pT m = true
  rotate_left
  · rw [if_neg hm] at h
    rw [if_pos (by simp [hm])]
    exact h
  rw [if_pos hm] at h
  rw [if_neg (by simp [hm])]
  obtain ⟨hin, hlen, hlay⟩ := k8 hm
  refine ⟨by simp, ZY (by simp) ?_⟩
  show if decide (8192 < AB (inL m)) = true then _ else _
  by_cases hp : 8192 < AB (inL m)
  · rw [if_pos hp] at h
    rw [if_pos (decide_eq_true hp)]
    exact h
  rw [if_neg hp] at h
  rw [if_neg (by simpa using hp)]
  refine ⟨?_⟩
  obtain ⟨z, hz⟩ : ∃ z, bG m.2 0 [inL m] = z := ⟨_, rfl⟩
  rw [hz] at h
  refine Loop.rangeI (B := nN m.2 (m.2.length : Int) _ _) m.2.length (fun i s => s.1 = (i : Int) /\ ShOk s.2 (i + 1) /\ bG (m.2.drop i) i s.2 = z) ⟨rfl, ⟨rfl, fun d hd => ?_⟩, hz⟩ ?_ ?_
  · rw [List.mem_singleton] at hd
    subst hd
    exact ⟨by simp, by simp⟩
  · rintro i hi ⟨s1, l⟩ ⟨rfl, hsh, hgo⟩ X hX
    dsimp only at hsh hgo
    unfold nN
    dsimp only
    rw [if_pos (decide_eq_true (show (i : Int) < (m.2.length : Int) by omega))]
    refine ⟨by omega, ?_⟩
    simp only [Int.toNat_natCast]
    have hdrop : m.2.drop i = m.2.getD i i5 :: m.2.drop (i + 1) := by
      rw [List.drop_eq_getElem_cons hi, List.getD_eq_getElem?_getD, List.getElem?_eq_getElem hi]; rfl
    rw [hdrop] at hgo
    have hne : l ≠ [] := by intro e; have := hsh.len; rw [e] at this; simp at this
    have hL := hsh.last (by omega)
    refine aNY hne (by rw [hsh.len]; omega) (hsh.ne _ hL).1 (fun d hd => by have := (hsh.ne d hd).2; omega) (fun h7 => ?_) ?_
    · have := UU (hlay i hi) h7
      rw [hsh.len]
      rw [aB _ (by omega) (by omega)] at this
      show 0 <= (m.2.getD i i5).2.2.2.2.2.1 /\ (m.2.getD i i5).2.2.2.2.2.1 < _
      omega
    unfold bG at hgo
    show nz (iU (m.2.getD i i5) l (l.getD (l.length - 1) [])) _ _
    generalize hg : iU (m.2.getD i i5) l (l.getD (l.length - 1) []) = g at hgo ⊢
    refine ⟨fun e => ?_, fun e => ⟨fun e2 => absurd e2 e, ?_⟩⟩
    · rw [if_pos e] at hgo
      subst hgo
      rw [aB _ (by omega) (by omega)]
      exact h
    · rw [if_neg e] at hgo
      have hg3 : g.length <= 3 := by rw [<- hg]; exact aDo (hsh.ne _ hL).2
      refine ZY (by omega) ?_
      by_cases hq : 8192 < AB g
      · rw [if_pos hq] at hgo
        subst hgo
        rw [if_pos (decide_eq_true hq), aB _ (by omega) (by omega)]
        exact h
      · rw [if_neg hq] at hgo
        rw [if_neg (by simpa using hq)]
        refine ⟨by rw [hsh.len]; simp; omega, ?_⟩
        refine hX _ ⟨by dsimp only; rw [aB _ (by omega) (by omega)]; omega, ?_, by dsimp only; exact_mod_cast hgo⟩
        dsimp only
        have := hsh.push (by omega) (x := m.2.getD i i5) (by rw [hg]; exact e)
        rwa [hg] at this
  · rintro ⟨s1, l⟩ ⟨rfl, hsh, hgo⟩ X
    unfold nN
    dsimp only at hgo ⊢
    rw [if_neg (by simp)]
    rw [List.drop_length] at hgo
    unfold bG at hgo
    subst hgo
    exact h
theorem aAc : ∀ (r : List Lay) (i : Int) (l : List (List Int)) (n : Nat), ShOk l n -> 0 < n -> (bG r i l).2.2 = 0 -> ShOk (bG r i l).1 (n + r.length)
  | [], i, l, n, h, _, _ => h
  | x :: r, i, l, n, h, hn, h0 => by
    unfold bG at h0 ⊢
    split at h0
    · cases h0
    · rename_i hg
      rw [if_neg hg]
      split at h0
      · cases h0
      · rename_i hp
        rw [if_neg hp]
        have := aAc r (i + 1) _ (n + 1) (h.push hn hg) (by omega) h0
        rw [List.length_cons, show n + (r.length + 1) = n + 1 + r.length by omega]
        exact this
theorem JD {m : Mdl} (h : (aO m).2.2 = 0) : pT m = true /\ ShOk (aO m).1 (m.2.length + 1) := by
 unfold aO at h ⊢
 split at h
 ·rename_i hm
  rw [if_pos hm]
  split at h
  ·cases h
  ·rename_i hp
   rw [if_neg hp]
   have := aAc m.2 0 [inL m] 1 ⟨rfl, fun d hd => by rw [List.mem_singleton] at hd; subst hd; exact ⟨by simp [inL], by simp [inL]⟩⟩ (by omega) h
   rw [Nat.add_comm]
   exact ⟨hm, this⟩
 ·cases h
def ofF (x : Lay) (d : List Int) : List Int × Int :=
 if x.1 = 1 then ([x.2.1, d.getD 0 0], x.2.1) else if x.1 = 2 then ([x.2.1, d.getD 0 0, x.2.2.1, x.2.2.1], x.2.1) else ([], 0)
def BG (m : Mdl) (i : Int) : List Int × Int :=
 if (((aO m).2.2 != 0) || decide (i < 1) || decide ((m.2.length : Int) < i)) = true then ([], 0)
 else if 0 < szF (ofF (m.2.getD (i - 1).toNat i5) ((aO m).1.getD (i - 1).toNat [])).1 then ofF (m.2.getD (i - 1).toNat i5) ((aO m).1.getD (i - 1).toNat []) else ([], 0)
theorem aKK : szF [] = 0 := rfl
theorem aOm {m : Mdl} {i : Int} {Q : List Int × Int -> Prop} (hl : m.2.length <= 10000000000000) (hd : (BG m i).1 = [] -> Q (BG m i)) (h : (BG m i).1 ≠ [] -> Q (BG m i)) : NJ m i Q := by
 have h : Q (BG m i) := by
  by_cases e : (BG m i).1 = []
  ·exact hd e
  ·exact h e
 clear hd
 refine ⟨aIE hl ?_⟩
 unfold BG at h
 by_cases h1 : (((aO m).2.2 != 0) || decide (i < 1) || decide ((m.2.length : Int) < i)) = true
 ·rw [if_pos h1] at h
  rw [if_pos h1]
  exact h
 rw [if_neg h1] at h
 rw [if_neg h1]
 simp only [Bool.or_eq_true, bne_iff_ne, decide_eq_true_eq, not_or, ne_eq, Decidable.not_not] at h1
 obtain ⟨hm, hok⟩ := JD h1.1.1
 have hw : IntKind.i64.wrap (i - 1) = i - 1 := aB _ (by omega) (by omega)
 rw [hw]
 have hol := hok.len
 have hat := hok.at_ (i := (i - 1).toNat) (by omega)
 refine ⟨by omega, by show _ /\ _ < ((aO m).1.length : Int); omega, ?_⟩
 show YO (m.2.getD (i - 1).toNat i5) ((aO m).1.getD (i - 1).toNat []) _
 generalize m.2.getD (i - 1).toNat i5 = x at h ⊢
 generalize (aO m).1.getD (i - 1).toNat [] = d at h hat ⊢
 have hd0 : 0 < (d.length : Int) := by have := List.length_pos_iff.2 hat.1; omega
 have fin : ∀ r : List Int × Int, r.1 ≠ [] -> r.1.length <= 4 -> Q (if 0 < szF r.1 then r else ([], 0)) -> nz r.1 (kI [] fun r3 => if (!r3) = true then Q ([], 0) else Q ([], r.2)) (kI r.1 fun r3 => if (!r3) = true then Q ([], 0) else ck (r.1 ≠ []) (Q (r.1, r.2))) := by
  intro r hr hr4 hq
  refine ⟨fun e => absurd e hr, fun e => aDx ?_⟩
  by_cases hs : 0 < szF r.1
  ·rw [if_pos hs] at hq
   rw [decide_eq_true hs, if_neg (by simp)]
   exact ⟨hr, hq⟩
  ·rw [if_neg hs] at hq
   rw [decide_eq_false hs, if_pos (by rfl)]
   exact hq
 refine ⟨?_⟩
 unfold aA2
 unfold ofF at h
 by_cases k1 : x.1 = 1
 ·simp only [if_pos k1] at h
  rw [if_pos (by simpa using k1)]
  exact ⟨by omega, by simp, fin ([x.2.1, d.getD 0 0], x.2.1) (by simp) (by simp) h⟩
 simp only [if_neg k1] at h
 rw [if_neg (by simpa using k1)]
 by_cases k2 : x.1 = 2
 ·simp only [if_pos k2] at h
  rw [if_pos (by simpa using k2)]
  exact ⟨by omega, by simp, fin ([x.2.1, d.getD 0 0, x.2.2.1, x.2.2.1], x.2.1) (by simp) (by simp) h⟩
 ·simp only [if_neg k2] at h
  rw [if_neg (by simpa using k2)]
  refine ⟨fun _ => aDx ?_, fun e => absurd rfl e⟩
  rw [aKK, if_pos (by rfl)]
  rw [aKK, if_neg (by omega)] at h
  exact h
end Go.Proofs.Ytbenbhdagmnapaa

namespace Go.Proofs.Ytbenbhdagmnapaa
open Go.Mach Go.RowKit
set_option maxRecDepth 100000
set_option linter.unusedVariables false
set_option linter.unusedSimpArgs false
def JP (a : Int) : Bool := decide (a < -1048576) || decide (1048576 < a)
theorem aMm {a : Int} {Q : Bool -> Prop} (h : Q (JP a)) : JG a Q := ⟨h⟩
theorem aJe {l : List Int} {Q : Bool -> Prop} (hl : l.length <= 10000000000000) (h : Q (l.any JP)) : aR l Q := by
  refine ⟨⟨⟨?_⟩⟩⟩
  refine Loop.range (B := aU l (l.length : Int) _ _) l.length (fun i => (i : Int)) (fun i => ∀ j, j < i -> JP (l.getD j 0) = false) (fun j hj => absurd hj (by omega)) ?_ ?_
  · intro i hi hI X hX
    unfold aU
    rw [if_pos (decide_eq_true (show (i : Int) < (l.length : Int) by omega))]
    refine ⟨by omega, aMm ?_⟩
    simp only [Int.toNat_natCast]
    cases hb : JP (l.getD i 0) with
    | true =>
      rw [if_pos rfl]
      have : l.any JP = true := by
        rw [List.any_eq_true]
        refine ⟨l[i], List.getElem_mem _, ?_⟩
        rw [List.getD_eq_getElem?_getD, List.getElem?_eq_getElem hi] at hb
        exact hb
      rw [this] at h
      rw [decide_eq_true (show (0 : Int) <= (i : Int) by omega)]
      exact h
    | false =>
      rw [if_neg (by simp), aB _ (by omega) (by omega)]
      refine hX fun j hj => ?_
      by_cases hji : j = i
      · subst hji; exact hb
      · exact hI j (by omega)
  · intro hI X
    unfold aU
    rw [if_neg (by simp)]
    have : l.any JP = false := by
      rw [List.any_eq_false]
      intro x hx
      obtain ⟨j, hj, rfl⟩ := List.mem_iff_getElem.1 hx
      have := hI j hj
      rw [List.getD_eq_getElem?_getD, List.getElem?_eq_getElem hj] at this
      simpa using this
    rw [this] at h
    exact h
def aK3 (p : Prm) : Bool :=
 (((IntKind.i64.wrap ((IntKind.i64.wrap ((IntKind.i64.wrap ((IntKind.i64.wrap ((p.1.1.length : Int) + (p.1.2.2.length : Int))) + (p.2.1.length : Int))) + (p.2.2.1.length : Int))) + (p.2.2.2.2.length : Int))) == 0) && (p.1.2.1 == 0)) && (p.2.2.2.1 == 0)
def okP (x : Lay) (dn : List Int × Int) (p : Prm) : Bool :=
 if dn.1 = [] then (aK3 p && !(x.1 == 1)) && !(x.1 == 2)
 else ((((dY p.1 && dY p.2.2) && decide (p.1.1 = dn.1)) && decide (p.2.2.1 = [dn.2])) && ((p.2.1.length : Int) == (p.1.2.2.length : Int))) && !(p.2.1.any JP)
def aFG (m : Mdl) (l : List Prm) : Bool := (List.range l.length).all fun i => okP (m.2.getD i i5) (BG m ((i : Int) + 1)) (l.getD i j9)
def GM (m : Mdl) (l : List Prm) : Bool := (((aO m).2.2 == 0) && ((l.length : Int) == (m.2.length : Int))) && aFG m l
theorem aOy {x : Lay} {dn : List Int × Int} {p : Prm} {s : Int} {A B : Prop} (hA : okP x dn p = true -> A) (hB : okP x dn p = false -> B) {nx : Int -> Prop} (hn : nx (IntKind.i64.wrap (s + 1)) = A) {K1 : Unit -> Prop} (hK : K1 () = B) :
    nz dn.1 (oV p (fun (r3 : Bool) => if (((!r3) || (x.1 == 1)) || (x.1 == 2)) = true then K1 () else d9 s (fun y4 => nx y4)))
      (nq dn.1 (oV p (fun (r3 : Bool) => if (((!r3) || (x.1 == 1)) || (x.1 == 2)) = true then K1 () else d9 s (fun y4 => nx y4)))
        (bN p.1 (fun (r7 : Bool) => jn (fun (v8 : Bool) => jn (fun (v11 : Bool) => jn (fun (v14 : Bool) => jn (fun (v17 : Bool) => if v17 = true then K1 () else d9 s (fun y20 => nx y20)) (fun J18 => if (v14 || ((p.2.1.length : Int) != (p.1.2.2.length : Int))) = true then J18 true else aR p.2.1 (fun (r19 : Bool) => J18 r19))) (fun J15 => if v11 = true then J15 true else jZ p.2.2.1 [dn.2] (fun (r16 : Bool) => J15 (!r16)))) (fun J12 => if v8 = true then J12 true else jZ p.1.1 dn.1 (fun (r13 : Bool) => J12 (!r13)))) (fun J9 => if (!r7) = true then J9 true else bN p.2.2 (fun (r10 : Bool) => J9 (!r10)))))) := by
  subst hn hK
  unfold okP at hA hB
  refine ⟨fun e => ?_, fun e => ⟨fun e2 => absurd e2 e, sB ?_⟩⟩
  · rw [if_pos e] at hA hB
    refine ⟨?_⟩
    show if (((!aK3 p) || (x.1 == 1)) || (x.1 == 2)) = true then K1 () else _
    cases h1 : ((aK3 p && !(x.1 == 1)) && !(x.1 == 2)) with
    | true =>
      have := hA h1
      rw [if_neg (by simpa [and_assoc] using h1)]
      exact ⟨this⟩
    | false =>
      rw [if_pos]
      · exact hB h1
      · revert h1
        cases aK3 p <;> cases (x.1 == 1) <;> cases (x.1 == 2) <;> simp
  · rw [if_neg e] at hA hB
    unfold jn
    dsimp only
    have no : (((((dY p.1 && dY p.2.2) && decide (p.1.1 = dn.1)) && decide (p.2.2.1 = [dn.2])) && ((p.2.1.length : Int) == (p.1.2.2.length : Int))) && !(p.2.1.any JP)) = false -> K1 () := hB
    cases m1 : dY p.1 with
    | false =>
      rw [m1] at no
      simp only [Bool.not_false, Bool.true_or, if_true]
      exact no (by simp)
    | true =>
      rw [if_neg (by simp)]
      refine sB ?_
      cases m2 : dY p.2.2 with
      | false =>
        rw [m2] at no
        simp only [Bool.not_false, Bool.true_or, if_true]
        exact no (by simp)
      | true =>
        rw [if_neg (by simp)]
        obtain ⟨l1, l2, _⟩ := pI m1
        obtain ⟨k1, k2, _⟩ := pI m2
        refine aEU (by omega) ?_
        by_cases e1 : p.1.1 = dn.1
        rotate_left
        · rw [decide_eq_false e1]
          simp only [Bool.not_false, Bool.true_or, if_true]
          exact no (by simp [e1])
        rw [decide_eq_true e1, if_neg (by simp)]
        refine aEU (by omega) ?_
        by_cases e2 : p.2.2.1 = [dn.2]
        rotate_left
        · rw [decide_eq_false e2]
          simp only [Bool.not_false, Bool.true_or, if_true]
          exact no (by simp [e2])
        rw [decide_eq_true e2]
        by_cases e3 : p.2.1.length = p.1.2.2.length
        rotate_left
        · rw [if_pos (by simp; omega), if_pos rfl]
          refine no ?_
          have : ((p.2.1.length : Int) == (p.1.2.2.length : Int)) = false := by simp; omega
          rw [this]
          simp
        rw [if_neg (by simp [e3])]
        refine aJe (by omega) ?_
        cases hg : p.2.1.any JP with
        | true =>
          rw [if_pos rfl]
          exact no (by rw [hg]; simp)
        | false =>
          rw [if_neg (by simp)]
          refine ⟨hA ?_⟩
          rw [m1, m2, decide_eq_true e1, decide_eq_true e2, hg]
          simp [e3]
theorem aMg {m : Mdl} {l : List Prm} {Q : Bool -> Prop} (hl : m.2.length <= 10000000000000) (h : Q (GM m l)) : US m l Q := by
  refine ⟨aIE hl ?_⟩
  unfold GM at h
  show if (((aO m).2.2 != 0) || ((l.length : Int) != (m.2.length : Int))) = true then Q false else _
  by_cases h1 : (aO m).2.2 = 0 /\ l.length = m.2.length
  rotate_left
  · have e : (((aO m).2.2 == 0) && ((l.length : Int) == (m.2.length : Int))) = false := by
      rw [Bool.eq_false_iff]
      intro hh
      simp only [Bool.and_eq_true, beq_iff_eq] at hh
      exact h1 ⟨hh.1, by omega⟩
    rw [e] at h
    rw [if_pos]
    · exact h
    · simp only [Bool.or_eq_true, bne_iff_ne, ne_eq]
      by_cases e1 : (aO m).2.2 = 0
      · right; intro e2; exact h1 ⟨e1, by omega⟩
      · exact .inl e1
  have e : (((aO m).2.2 == 0) && ((l.length : Int) == (m.2.length : Int))) = true := by simp [h1.1, h1.2]
  rw [e, Bool.true_and] at h
  rw [if_neg (by simp [h1.1, h1.2])]
  obtain ⟨hm, hok⟩ := JD h1.1
  have hlen := (k8 hm).2.1
  refine ⟨?_⟩
  refine Loop.range (B := rU l (l.length : Int) m.1.1 m.1.2.1 m.1.2.2 m.2 (fun _ => Q true) (fun _ => Q false)) l.length (fun i => (i : Int)) (fun i => ∀ j, j < i -> okP (m.2.getD j i5) (BG m ((j : Int) + 1)) (l.getD j j9) = true) (fun j hj => absurd hj (by omega)) ?_ ?_
  · intro i hi hI X hX
    unfold rU
    rw [if_pos (decide_eq_true (show (i : Int) < (l.length : Int) by omega))]
    simp only [Int.toNat_natCast]
    have hw : IntKind.i64.wrap ((i : Int) + 1) = (i : Int) + 1 := aB _ (by omega) (by omega)
    refine ⟨by omega, ?_⟩
    have hq : ∀ d : List Int × Int, d = BG m ((i : Int) + 1) -> nz d.1 (ck ((0 : Int) <= (i : Int) /\ (i : Int) < (m.2.length : Int)) (oV (l.getD i j9) (fun (r3 : Bool) => if (((!r3) || ((m.2.getD i i5).1 == 1)) || ((m.2.getD i i5).1 == 2)) = true then Q false else d9 (i : Int) (fun y4 => X y4))))
      (nq d.1 (ck ((0 : Int) <= (i : Int) /\ (i : Int) < (m.2.length : Int)) (oV (l.getD i j9) (fun (r3 : Bool) => if (((!r3) || ((m.2.getD i i5).1 == 1)) || ((m.2.getD i i5).1 == 2)) = true then Q false else d9 (i : Int) (fun y4 => X y4))))
        (bN (l.getD i j9).1 (fun (r7 : Bool) => jn (fun (v8 : Bool) => jn (fun (v11 : Bool) => jn (fun (v14 : Bool) => jn (fun (v17 : Bool) => if v17 = true then Q false else d9 (i : Int) (fun y20 => X y20)) (fun J18 => if (v14 || (((l.getD i j9).2.1.length : Int) != ((l.getD i j9).1.2.2.length : Int))) = true then J18 true else aR (l.getD i j9).2.1 (fun (r19 : Bool) => J18 r19))) (fun J15 => if v11 = true then J15 true else jZ (l.getD i j9).2.2.1 [d.2] (fun (r16 : Bool) => J15 (!r16)))) (fun J12 => if v8 = true then J12 true else jZ (l.getD i j9).1.1 d.1 (fun (r13 : Bool) => J12 (!r13)))) (fun J9 => if (!r7) = true then J9 true else bN (l.getD i j9).2.2 (fun (r10 : Bool) => J9 (!r10)))))) := by
      intro d hd
      have key := aOy (x := m.2.getD i i5) (dn := d) (p := l.getD i j9) (s := (i : Int)) (A := X (IntKind.i64.wrap ((i : Int) + 1))) (B := Q false) (nx := X) (K1 := fun _ => Q false) (fun hk => by
        rw [hw]
        refine hX fun j hj => ?_
        by_cases hji : j = i
        · subst hji; rw [<- hd]; exact hk
        · exact hI j (by omega)) (fun hk => by
        have : aFG m l = false := by
          unfold aFG
          rw [List.all_eq_false]
          exact ⟨i, List.mem_range.2 hi, by rw [<- hd, hk]; simp⟩
        rw [this] at h
        exact h) rfl rfl
      exact ⟨fun e => ⟨by omega, key.1 e⟩, fun e => ⟨fun e2 => absurd e2 e, (key.2 e).2⟩⟩
    rw [hw]
    exact aOm hl (fun _ => hq _ rfl) (fun _ => hq _ rfl)
  · intro hI X
    unfold rU
    rw [if_neg (by simp)]
    have : aFG m l = true := by
      unfold aFG
      rw [List.all_eq_true]
      intro j hj
      exact hI j (List.mem_range.1 hj)
    rw [this] at h
    exact h
theorem aHx {a lo hi : Int} {Q : Bool -> Prop} (h : Q (inP a lo hi)) : xY a lo hi Q := ⟨h⟩
def aEd (a b c : Int) : Int := if ((inP a 0 1000000 && inP b 0 12) && inP c 0 15) = true then a * 1024 + b * 16 + c else 0
theorem aKX {a b c : Int} {Q : Int -> Prop} (h : Q (aEd a b c)) : vE a b c Q := by
  refine ⟨aHx ?_⟩
  unfold jn
  dsimp only
  unfold aEd at h
  cases h1 : inP a 0 1000000 with
  | false =>
    rw [h1] at h
    simp only [Bool.not_false, if_true]
    exact h
  | true =>
    rw [h1] at h
    rw [if_neg (by simp)]
    refine aHx ?_
    cases h2 : inP b 0 12 with
    | false =>
      rw [h2] at h
      simp only [Bool.not_false, if_true]
      exact h
    | true =>
      rw [h2] at h
      rw [if_neg (by simp)]
      refine aHx ?_
      cases h3 : inP c 0 15 with
      | false =>
        rw [h3] at h
        rw [if_pos (by rfl)]
        exact h
      | true =>
        rw [h3, if_pos (by rfl)] at h
        rw [if_neg (by simp)]
        unfold inP at h1 h2 h3
        simp only [Bool.and_eq_true, decide_eq_true_eq] at h1 h2 h3
        rw [aB (a * 1024) (by omega) (by omega), aB (b * 16) (by omega) (by omega), aB (a * 1024 + b * 16) (by omega) (by omega), aB _ (by omega) (by omega)]
        have : IntKind.u64.wrap (a * 1024 + b * 16 + c) = a * 1024 + b * 16 + c := by
          simp only [IntKind.wrap, IntKind.bits, IntKind.signed]
          simp
          omega
        rw [this]
        exact h
end Go.Proofs.Ytbenbhdagmnapaa

namespace Go.Proofs.Ytbenbhdagmnapaa
open Go.Mach Go.RowKit
set_option maxRecDepth 100000
set_option linter.unusedVariables false
set_option linter.unusedSimpArgs false
def InP (K plane : Nat) (l : List (Int × Int × Int)) : Prop := ∀ z ∈ l, ∃ a r c : Nat, z = ((a : Int), (r : Int), (c : Int)) /\ a < plane /\ r < K /\ c < K
theorem aLt {rows cols cr cc : Int} {k m : Nat} {z : Int × Int × Int} (h : z ∈ TB rows cols cr cc k m) : ∃ i j : Nat, i < m /\ j < k /\ (0 <= cr + i /\ cr + i <= rows - 1) /\ (0 <= cc + j /\ cc + j <= cols - 1) /\ z = ((cr + i) * cols + (cc + j), (i : Int), (j : Int)) := by
 unfold TB uZ at h
 simp only [List.mem_flatMap, List.mem_range] at h
 obtain ⟨i, hi, j, hj, hz⟩ := h
 unfold yK at hz
 split at hz
 ·rename_i hin
  simp only [Bool.and_eq_true] at hin
  refine ⟨i, j, hi, hj, by simpa [inP] using hin.1, by simpa [inP] using hin.2, by simpa using hz⟩
 ·simp at hz
theorem aMv {rows cols : Nat} {cr cc : Int} {k m K : Nat} (hm : m <= K) (hk : k <= K) : InP K (rows * cols) (TB rows cols cr cc k m) := by
 intro z hz
 obtain ⟨i, j, hi, hj, h1, h2, rfl⟩ := aLt hz
 obtain ⟨y, hy⟩ := Int.eq_ofNat_of_zero_le h1.1
 obtain ⟨x, hx⟩ := Int.eq_ofNat_of_zero_le h2.1
 refine ⟨y * cols + x, i, j, ?_, D9 (by omega) (by omega), by omega, by omega⟩
 rw [hy, hx, Int.natCast_add, Int.natCast_mul]
theorem aC6 {rows cols K : Nat} {r c s p : Int} : InP K (rows * cols) (iY rows cols r c K s p) := by
 unfold iY
 split
 ·intro z hz; simp at hz
 ·rw [Int.toNat_natCast]; exact aMv (Nat.le_refl _) (Nat.le_refl _)
theorem aBC {rows cols r c s p : Int} {K : Nat} : (iY rows cols r c K s p).length <= K * K := by
 unfold iY
 split
 ·simp
 ·rw [Int.toNat_natCast]; exact aC9 K
def aG4 (xd wd : List Int) (C plane K m o c : Nat) (z : Int × Int × Int) : Int := xd.getD ((m * C + c) * plane + z.1.toNat) 0 * wd.getD (((o * C + c) * K + z.2.1.toNat) * K + z.2.2.toNat) 0
theorem aPY {C K plane m o c n O : Nat} {xd wd : List Int} {l : List (Int × Int × Int)} {t : Int} {K0 : Int -> Prop} (hx : xd.length = n * C * plane) (hw : wd.length = O * C * K * K) (bx : n * C * plane <= 8192) (bw : O * C * K * K <= 8192) (ax : All8 xd) (aw : All8 wd) (hm : m < n) (ho : o < O) (hc : c < C) (hl : InP K plane l) (hll : l.length <= 1000000)
  (h : K0 (IntKind.i64.wrap (t + aEc l (aG4 xd wd C plane K m o c)))) : AR C K plane m o c (l.length : Int) xd wd l K0 (IntKind.i64.wrap t, 0) := by
 refine ⟨?_⟩
 have eg : (IntKind.i64.wrap t, (0 : Int)) = (fun i : Nat => (IntKind.i64.wrap (t + i6 (fun i => aG4 xd wd C plane K m o c (l.getD i (0, 0, 0))) i), (i : Int))) 0 := by simp [i6]
 rw [eg]
 refine Loop.range (B := nU C K plane m o c (l.length : Int) xd wd l K0) (f := fun i : Nat => (IntKind.i64.wrap (t + i6 (fun i => aG4 xd wd C plane K m o c (l.getD i (0, 0, 0))) i), (i : Int))) l.length (fun _ => True) trivial ?_ ?_
 ·intro i hi _ X hX
  have hX := hX trivial
  unfold nU
  rw [if_pos (decide_eq_true (show (i : Int) < (l.length : Int) by omega))]
  dsimp only at hX ⊢
  refine ⟨by omega, ?_⟩
  rw [Int.toNat_natCast]
  obtain ⟨a, r, q, ez, ha, hr, hq⟩ := hl (l.getD i (0, 0, 0)) (by rw [List.getD_eq_getElem?_getD, List.getElem?_eq_getElem hi]; exact List.getElem_mem hi)
  have g1 : (m * C + c) * plane + a < n * C * plane := D9 (D9 hm hc) ha
  have g2 : ((o * C + c) * K + r) * K + q < O * C * K * K := D9 (D9 (D9 ho hc) hr) hq
  have g3 : m * C + c < n * C := D9 hm hc
  have g4 : n * C <= n * C * plane := Nat.le_mul_of_pos_right _ (by omega)
  have g5 : (o * C + c) * K + r < O * C * K := D9 (D9 ho hc) hr
  have g6 : O * C * K <= O * C * K * K := Nat.le_mul_of_pos_right _ (by omega)
  have g7 : o * C + c < O * C := D9 ho hc
  have g8 : O * C <= O * C * K := Nat.le_mul_of_pos_right _ (by omega)
  have ef : aG4 xd wd C plane K m o c (l.getD i (0, 0, 0)) = xd.getD ((m * C + c) * plane + a) 0 * wd.getD (((o * C + c) * K + r) * K + q) 0 := by
   unfold aG4; rw [ez]; simp only [Int.toNat_natCast]
  simp only [i6, ef] at hX
  rw [ez]
  dsimp only
  rw [ix (r := m) (n := C) (i := c) (by omega), ix (r := m * C + c) (n := plane) (i := a) (by omega), ix (r := o) (n := C) (i := c) (by omega), ix (r := o * C + c) (n := K) (i := r) (by omega), ix (r := (o * C + c) * K + r) (n := K) (i := q) (by omega)]
  refine ⟨by omega, by omega, ?_⟩
  simp only [Int.toNat_natCast]
  have b1 := ax.at_ ((m * C + c) * plane + a)
  have b2 := aw.at_ (((o * C + c) * K + r) * K + q)
  have b3 := aNk b1 b2
  rw [aB (xd.getD ((m * C + c) * plane + a) 0) (by omega) (by omega), aB (wd.getD (((o * C + c) * K + r) * K + q) 0) (by omega) (by omega), aB (_ * _) (by omega) (by omega), aB ((i : Int) + 1) (by omega) (by omega), aKp, Int.add_assoc]
  exact hX
 ·intro _ X
  unfold nU
  rw [if_neg (by simp)]
  rw [aGH l _ (0, 0, 0)] at h
  exact h
theorem aPg {C K plane m o n O : Nat} {xd wd : List Int} {l : List (Int × Int × Int)} {t : Int} {K0 : Int -> Prop} (hx : xd.length = n * C * plane) (hw : wd.length = O * C * K * K) (bx : n * C * plane <= 8192) (bw : O * C * K * K <= 8192) (ax : All8 xd) (aw : All8 wd) (hm : m < n) (ho : o < O) (hl : InP K plane l) (hll : l.length <= 1000000) (hC : C <= 10000)
  (h : K0 (IntKind.i64.wrap (t + i6 (fun c => aEc l (aG4 xd wd C plane K m o c)) C))) : A0 C K plane m o C xd wd l K0 (IntKind.i64.wrap t, 0) := by
 refine ⟨?_⟩
 have eg : (IntKind.i64.wrap t, (0 : Int)) = (fun i : Nat => (IntKind.i64.wrap (t + i6 (fun c => aEc l (aG4 xd wd C plane K m o c)) i), (i : Int))) 0 := by simp [i6]
 rw [eg]
 refine Loop.range (B := nM C K plane m o C xd wd l K0) (f := fun i : Nat => (IntKind.i64.wrap (t + i6 (fun c => aEc l (aG4 xd wd C plane K m o c)) i), (i : Int))) C (fun _ => True) trivial ?_ ?_
 ·intro c hc _ X hX
  have hX := hX trivial
  unfold nM
  rw [if_pos (decide_eq_true (show (c : Int) < (C : Int) by omega))]
  dsimp only at hX ⊢
  refine aPY hx hw bx bw ax aw hm ho hc hl hll ?_
  rw [aB ((c : Int) + 1) (by omega) (by omega), Int.add_assoc]
  exact hX
 ·intro _ X
  unfold nM
  rw [if_neg (by simp)]
  exact h
section
variable {n C O K H V P Q : Nat} {s p : Int} {xd wd bd : List Int} {be e : Int}
def rW (H V C K : Nat) (s p : Int) (xd wd bd : List Int) (be e : Int) (m o y x : Nat) : Int := IntKind.i32.wrap (alF (bd.getD o 0) be e + i6 (fun c => aEc (iY H V y x K s p) (aG4 xd wd C (H * V) K m o c)) C)
structure FwdIn (n C O K H V P Q : Nat) (xd wd bd : List Int) : Prop where
 hx : xd.length = n * C * (H * V)
 hw : wd.length = O * C * K * K
 bx : n * C * (H * V) <= 8192
 bw : O * C * K * K <= 8192
 ax : All8 xd
 aw : All8 wd
 ab : All8 bd
 hb : bd.length = O
 hK : K <= 5
 hC : 1 <= C
 hn : 1 <= n
 hO : 1 <= O
 h0 : 1 <= K
 bo : n * O * P * Q <= 8192
theorem FwdIn.le {n C O K H V P Q : Nat} {xd wd bd : List Int} (g : FwdIn n C O K H V P Q xd wd bd) : C <= 8192 /\ O <= 8192 := by
 have h1 := g.bw
 have h2 := g.h0
 have h3 := g.hO
 have h4 := g.hC
 have h5 : O * C <= O * C * K := Nat.le_mul_of_pos_right _ h2
 have h6 : O * C * K <= O * C * K * K := Nat.le_mul_of_pos_right _ h2
 have h7 : C <= O * C := Nat.le_mul_of_pos_left _ h3
 have h8 : O <= O * C := Nat.le_mul_of_pos_right _ h4
 omega
theorem aPf (g : FwdIn n C O K H V P Q xd wd bd) {C0 : Nat -> Nat -> Nat -> Nat -> Prop} {L : List Int} {m y x : Nat} {K0 : List Int -> Prop} (hm : m < n) (hy : y < P) (hx : x < Q) (hL : Fill n O P Q (rW H V C K s p xd wd bd be e) C0 L)
  (h : ∀ L', Fill n O P Q (rW H V C K s p xd wd bd be e) (fun m' o' y' x' => C0 m' o' y' x' \/ (m' = m /\ y' = y /\ x' = x)) L' -> K0 L') :
  AH C O K ((H * V : Nat) : Int) y x m O xd wd be bd P Q e (iY H V y x K s p) K0 (0, L) := by
 refine ⟨?_⟩
 have hle := g.le
 have hbo := g.bo
 refine Loop.rangeI (B := nP C O K ((H * V : Nat) : Int) y x m O xd wd be bd P Q e (iY H V y x K s p) K0) O (fun i st => st.1 = (i : Int) /\ Fill n O P Q (rW H V C K s p xd wd bd be e) (fun m' o' y' x' => C0 m' o' y' x' \/ (m' = m /\ y' = y /\ x' = x /\ o' < i)) st.2) ⟨rfl, hL.mono fun m' o' y' x' _ _ _ _ hc => hc.elim id fun h => absurd h.2.2.2 (by omega)⟩ ?_ ?_
 ·rintro o ho ⟨o', M⟩ ⟨e1, hM⟩ X hX
  simp only at e1 hM
  subst e1
  unfold nP
  rw [if_pos (decide_eq_true (show (o : Int) < (O : Int) by omega))]
  dsimp only
  refine ⟨by rw [g.hb]; omega, ?_⟩
  rw [Int.toNat_natCast]
  have bb := g.ab.at_ o
  rw [aB (bd.getD o 0) (by omega) (by omega)]
  refine aN1 ?_
  have ba := aHK (b := be) (c := e) bb
  have hK := g.hK
  have hKK : K * K <= 5 * 5 := Nat.mul_le_mul hK hK
  have hwl := aBC (rows := H) (cols := V) (r := y) (c := x) (s := s) (p := p) (K := K)
  have e0 : (alF (bd.getD o 0) be e, (0 : Int)) = (IntKind.i64.wrap (alF (bd.getD o 0) be e), (0 : Int)) := by rw [aB _ (by omega) (by omega)]
  rw [e0]
  refine aPg g.hx g.hw g.bx g.bw g.ax g.aw hm ho aC6 (by omega) (by omega) ?_
  have g1 := aJd (P := P) (Q := Q) hm ho hy hx
  unfold ix4 at g1
  have g2 : m * O + o <= (m * O + o) * P := Nat.le_mul_of_pos_right _ (by omega)
  have g3 : (m * O + o) * P + y <= ((m * O + o) * P + y) * Q := Nat.le_mul_of_pos_right _ (by omega)
  rw [ix (r := m) (n := O) (i := o) (by omega), ix (r := m * O + o) (n := P) (i := y) (by omega), ix (r := (m * O + o) * P + y) (n := Q) (i := x) (by omega)]
  refine ⟨by rw [hM.len]; omega, ?_⟩
  rw [Int.toNat_natCast, aB ((o : Int) + 1) (by omega) (by omega), aNd]
  refine hX _ ⟨by simp, ?_⟩
  refine hM.set hm ho hy hx rfl fun m' o' y' x' _ _ _ _ hc => ?_
  rcases hc with hc | ⟨c1, c2, c3, c4⟩
  ·exact .inl (.inl hc)
  ·rcases Nat.lt_or_ge o' o with c5 | c5
   ·exact .inl (.inr ⟨c1, c2, c3, c5⟩)
   ·exact .inr ⟨c1, by omega, c2, c3⟩
 ·rintro ⟨o', M⟩ ⟨e1, hM⟩ X
  simp only at e1 hM
  subst e1
  unfold nP
  rw [if_neg (by simp)]
  exact h _ (hM.mono fun m' o' y' x' _ h2 _ _ hc => hc.elim .inl fun ⟨a, b, c⟩ => .inr ⟨a, b, c, h2⟩)
theorem aPd (g : FwdIn n C O K H V P Q xd wd bd) {C0 : Nat -> Nat -> Nat -> Nat -> Prop} {L : List Int} {y x : Nat} {K0 : List Int -> Prop} (hn : n <= 8192) (hy : y < P) (hx : x < Q) (hL : Fill n O P Q (rW H V C K s p xd wd bd be e) C0 L)
  (h : ∀ L', Fill n O P Q (rW H V C K s p xd wd bd be e) (fun m' o' y' x' => C0 m' o' y' x' \/ (y' = y /\ x' = x)) L' -> K0 L') :
  AZ C O K ((H * V : Nat) : Int) y x n xd wd be bd P Q e (iY H V y x K s p) K0 (0, L) := by
 refine ⟨?_⟩
 refine Loop.rangeI (B := nS C O K ((H * V : Nat) : Int) y x n xd wd be bd P Q e (iY H V y x K s p) K0) n (fun i st => st.1 = (i : Int) /\ Fill n O P Q (rW H V C K s p xd wd bd be e) (fun m' o' y' x' => C0 m' o' y' x' \/ (y' = y /\ x' = x /\ m' < i)) st.2) ⟨rfl, hL.mono fun m' o' y' x' _ _ _ _ hc => hc.elim id fun h => absurd h.2.2 (by omega)⟩ ?_ ?_
 ·rintro m hm ⟨m', M⟩ ⟨e1, hM⟩ X hX
  simp only at e1 hM
  subst e1
  unfold nS
  rw [if_pos (decide_eq_true (show (m : Int) < (n : Int) by omega))]
  refine aPf g hm hy hx hM fun L' hL' => ?_
  dsimp only
  rw [aB ((m : Int) + 1) (by omega) (by omega)]
  refine hX _ ⟨by simp, hL'.mono fun m' o' y' x' _ _ _ _ hc => ?_⟩
  rcases hc with hc | ⟨c1, c2, c3⟩
  ·exact .inl (.inl hc)
  ·rcases Nat.lt_or_ge m' m with c5 | c5
   ·exact .inl (.inr ⟨c1, c2, c5⟩)
   ·exact .inr ⟨by omega, c1, c2⟩
 ·rintro ⟨m', M⟩ ⟨e1, hM⟩ X
  simp only at e1 hM
  subst e1
  unfold nS
  rw [if_neg (by simp)]
  exact h _ (hM.mono fun m' o' y' x' h2 _ _ _ hc => hc.elim .inl fun ⟨a, b⟩ => .inr ⟨a, b, h2⟩)
theorem aP2 (g : FwdIn n C O K H V P Q xd wd bd) {C0 : Nat -> Nat -> Nat -> Nat -> Prop} {L : List Int} {y : Nat} {K0 : List Int -> Prop} (hn : n <= 8192) (hQ : Q <= 8192) (hy : y < P) (hL : Fill n O P Q (rW H V C K s p xd wd bd be e) C0 L)
  (h : ∀ L', Fill n O P Q (rW H V C K s p xd wd bd be e) (fun m' o' y' x' => C0 m' o' y' x' \/ y' = y) L' -> K0 L') :
  AQ n C O K ((H * V : Nat) : Int) y Q xd wd be bd H V K s p P Q e K0 (0, L) := by
 refine ⟨?_⟩
 refine Loop.rangeI (B := nL n C O K ((H * V : Nat) : Int) y Q xd wd be bd H V K s p P Q e K0) Q (fun i st => st.1 = (i : Int) /\ Fill n O P Q (rW H V C K s p xd wd bd be e) (fun m' o' y' x' => C0 m' o' y' x' \/ (y' = y /\ x' < i)) st.2) ⟨rfl, hL.mono fun m' o' y' x' _ _ _ _ hc => hc.elim id fun h => absurd h.2 (by omega)⟩ ?_ ?_
 ·rintro x hx ⟨x', M⟩ ⟨e1, hM⟩ X hX
  simp only at e1 hM
  subst e1
  unfold nL
  rw [if_pos (decide_eq_true (show (x : Int) < (Q : Int) by omega))]
  refine ⟨?_⟩
  unfold EX
  refine aDc ?_
  refine aPd g hn hy hx hM fun L' hL' => ?_
  dsimp only
  rw [aB ((x : Int) + 1) (by omega) (by omega)]
  refine hX _ ⟨by simp, hL'.mono fun m' o' y' x' _ _ _ _ hc => ?_⟩
  rcases hc with hc | ⟨c1, c2⟩
  ·exact .inl (.inl hc)
  ·rcases Nat.lt_or_ge x' x with c5 | c5
   ·exact .inl (.inr ⟨c1, c5⟩)
   ·exact .inr ⟨c1, by omega⟩
 ·rintro ⟨x', M⟩ ⟨e1, hM⟩ X
  simp only at e1 hM
  subst e1
  unfold nL
  rw [if_neg (by simp)]
  exact h _ (hM.mono fun m' o' y' x' _ _ _ h2 hc => hc.elim .inl fun a => .inr ⟨a, h2⟩)
theorem aP3 (g : FwdIn n C O K H V P Q xd wd bd) {L : List Int} {K0 : List Int -> Prop} (hn : n <= 8192) (hQ : Q <= 8192) (hP : P <= 8192) (hL : L.length = n * O * P * Q)
  (h : K0 (aJU n O P Q (rW H V C K s p xd wd bd be e))) :
  AX n C O K ((H * V : Nat) : Int) P xd wd be bd H V K s p P Q e K0 (0, L) := by
 refine ⟨?_⟩
 refine Loop.rangeI (B := nQ n C O K ((H * V : Nat) : Int) P xd wd be bd H V K s p P Q e K0) P (fun i st => st.1 = (i : Int) /\ Fill n O P Q (rW H V C K s p xd wd bd be e) (fun m' o' y' x' => y' < i) st.2) ⟨rfl, hL, fun m' o' y' x' _ _ _ _ hc => absurd hc (by omega)⟩ ?_ ?_
 ·rintro y hy ⟨y', M⟩ ⟨e1, hM⟩ X hX
  simp only at e1 hM
  subst e1
  unfold nQ
  rw [if_pos (decide_eq_true (show (y : Int) < (P : Int) by omega))]
  refine aP2 g hn hQ hy hM fun L' hL' => ?_
  dsimp only
  rw [aB ((y : Int) + 1) (by omega) (by omega)]
  refine hX _ ⟨by simp, hL'.mono fun m' o' y' x' _ _ _ _ hc => ?_⟩
  rcases Nat.lt_or_ge y' y with c5 | c5
  ·exact .inl c5
  ·exact .inr (by omega)
 ·rintro ⟨y', M⟩ ⟨e1, hM⟩ X
  simp only at e1 hM
  subst e1
  unfold nQ
  rw [if_neg (by simp)]
  rw [hM.all fun _ _ y' _ _ _ hy _ => hy]
  exact h
end
open Go.Mach Go.RowKit
set_option maxRecDepth 100000
set_option linter.unusedVariables false
set_option linter.unusedSimpArgs false
theorem aP9 {l : List Int} (h : (l.length : Int) = 4) : ∃ a b c d, l = [a, b, c, d] := by
 match l, h with
 | [a, b, c, d], _ => exact ⟨a, b, c, d, rfl⟩
 | [], h => simp at h
 | [_], h => simp at h
 | [_, _], h => simp at h
 | [_, _, _], h => simp at h
 | _ :: _ :: _ :: _ :: _ :: r, h => simp at h; omega
theorem len1 {l : List Int} (h : (l.length : Int) = 1) : ∃ a, l = [a] := by
 match l, h with
 | [a], _ => exact ⟨a, rfl⟩
 | [], h => simp at h
 | _ :: _ :: r, h => simp at h; omega
theorem aJH {l : List T3} (h : VQ l = 0) : ∀ t ∈ l, dY t = true /\ (t.1.length : Int) = 4 := by
 unfold VQ at h
 split at h
 ·split at h
  ·rename_i h1 h2
   intro t ht
   exact ⟨List.all_eq_true.1 h1 t ht, by have := List.all_eq_true.1 h2 t ht; simpa using this⟩
  ·cases h
 ·cases h
theorem aON {t : T3} (h : dY t = true) (hl : (t.1.length : Int) = 4) : ∃ n m p q : Nat, t.1 = [(n : Int), (m : Int), (p : Int), (q : Int)] /\ 1 <= n /\ 1 <= m /\ 1 <= p /\ 1 <= q /\ n * m * p * q <= 8192 /\ t.2.2.length = n * m * p * q /\ -64 <= t.2.1 /\ t.2.1 <= 64 := by
 obtain ⟨h1, h2, h3, h4⟩ := jO.1 h
 obtain ⟨a, b, c, d, e⟩ := aP9 hl
 rw [e] at h1 h2
 obtain ⟨n, m, p, q, rfl, rfl, rfl, rfl, g1, g2, g3, g4, g5, g6⟩ := aOt h1
 rw [g6] at h2
 exact ⟨n, m, p, q, e, g1, g2, g3, g4, g5, by omega, h3.1, h3.2⟩
theorem aPZ {t : T3} (h : dY t = true) (hl : (t.1.length : Int) = 1) : ∃ n : Nat, t.1 = [(n : Int)] /\ 1 <= n /\ n <= 4096 /\ t.2.2.length = n := by
 obtain ⟨h1, h2, h3, h4⟩ := jO.1 h
 obtain ⟨a, e⟩ := len1 hl
 rw [e] at h1 h2
 obtain ⟨g1, g2, g3⟩ := aPP h1
 obtain ⟨n, rfl⟩ := Int.eq_ofNat_of_zero_le (show 0 <= a by omega)
 rw [g3] at h2
 exact ⟨n, e, by omega, by omega, by omega⟩
theorem JS {n k s p : Int} (h : 0 < bR n k s p) : (1 <= n /\ n <= 16) /\ (1 <= k /\ k <= 5) /\ (1 <= s /\ s <= 4) /\ (0 <= p /\ p <= k - 1) /\ k <= n + 2 * p /\ bR n k s p = (n + 2 * p - k) / s + 1 := by
 have hb := (DP n k s p).2.2 (by omega)
 obtain ⟨b1, b2, b3, b4, b5⟩ := JO hb
 refine ⟨b1, b2, b3, b4, b5, ?_⟩
 unfold bR
 rw [hb, if_neg (by simp)]
theorem QN {n k s p : Int} : ∃ P : Nat, bR n k s p = P /\ P <= 25 := by
 obtain ⟨h1, h2, _⟩ := DP n k s p
 obtain ⟨P, e⟩ := Int.eq_ofNat_of_zero_le h1
 exact ⟨P, e, by omega⟩
def aHL (x w b : T3) (s p : Int) : Bool :=
 (((!(decide (0 < bR (x.1.getD 2 0) (w.1.getD 2 0) s p) && decide (0 < bR (x.1.getD 3 0) (w.1.getD 2 0) s p)) || (w.1.getD 1 0 != x.1.getD 1 0)) || (w.1.getD 3 0 != w.1.getD 2 0)) || ((b.1.length : Int) != 1)) || (b.1.getD 0 0 != w.1.getD 0 0)
def aEP (x w : T3) (s p : Int) : List Int := [x.1.getD 0 0, w.1.getD 0 0, bR (x.1.getD 2 0) (w.1.getD 2 0) s p, bR (x.1.getD 3 0) (w.1.getD 2 0) s p]
def aNx (x w : T3) : Int := x.1.getD 1 0 * w.1.getD 2 0 * w.1.getD 2 0
def aMU (x w b : T3) (s p : Int) : Int :=
 if (!dY b) = true then 1
 else if (VQ [x, w] != 0) = true then VQ [x, w]
 else if aHL x w b s p = true then 2
 else (V0 (aEP x w s p) (x.2.1 + w.2.1) (aNx x w)).2
def aHh (x w b : T3) (s p : Int) : List Int :=
  aJU (x.1.getD 0 0).toNat (w.1.getD 0 0).toNat (bR (x.1.getD 2 0) (w.1.getD 2 0) s p).toNat (bR (x.1.getD 3 0) (w.1.getD 2 0) s p).toNat
    (rW (x.1.getD 2 0).toNat (x.1.getD 3 0).toNat (x.1.getD 1 0).toNat (w.1.getD 2 0).toNat s p x.2.2 w.2.2 b.2.2 b.2.1 (x.2.1 + w.2.1))
def aJz (x w b : T3) (s p : Int) : T3 × Int := if (aMU x w b s p != 0) = true then (Z3, aMU x w b s p) else ((aEP x w s p, (x.2.1 + w.2.1, aHh x w b s p)), 0)
theorem aPM {a b : Int} : (a != b) = true ↔ a ≠ b := by simp
theorem aKJ {a b : Int} : (a != b) = false ↔ a = b := by simp
theorem aOM {x w b : T3} {s p : Int} {Q : T3 × Int -> Prop} (ax : All8 x.2.2) (aw : All8 w.2.2) (ab : All8 b.2.2) (hq : Q (aJz x w b s p)) : KK x w b s p Q := by
  refine ⟨?_⟩
  unfold PV
  refine sB ?_
  unfold aJz aMU at hq
  by_cases h1 : (!dY b) = true
  · rw [if_pos h1]
    simp only [h1, if_true] at hq
    exact hq
  · rw [if_neg h1]
    simp only [h1, Bool.false_eq_true, if_false] at hq
    refine aOo (by simp) ?_
    show (if (VQ [x, w] != 0) = true then _ else _)
    by_cases h2 : (VQ [x, w] != 0) = true
    · rw [if_pos h2]
      simp only [h2, if_true] at hq
      exact hq
    · rw [if_neg h2]
      simp only [h2, Bool.false_eq_true, if_false] at hq
      have hz : VQ [x, w] = 0 := by simpa using h2
      have hzz := aJH hz
      obtain ⟨mx, lx⟩ := hzz x (by simp)
      obtain ⟨mw, lw⟩ := hzz w (by simp)
      obtain ⟨n, C, H, V, ex, x1, x2, x3, x4, x5, x6, x7, x8⟩ := aON mx lx
      obtain ⟨O, C', K, K', ew, w1, w2, w3, w4, w5, w6, w7, w8⟩ := aON mw lw
      refine ⟨by omega, by omega, by omega, by omega, by omega, by omega, aOO ?_⟩
      refine XT (b := !(decide (0 < bR (x.1.getD 2 0) (w.1.getD 2 0) s p) && decide (0 < bR (x.1.getD 3 0) (w.1.getD 2 0) s p))) (c := w.1.getD 1 0 != x.1.getD 1 0) (fun _ P hp => ⟨by omega, hp⟩) (fun v4 e4 => ?_) rfl
      refine XT (c := w.1.getD 3 0 != w.1.getD 2 0) (fun _ P hp => ⟨by omega, hp⟩) (fun v6 e6 => ?_) rfl
      refine XT (b := v6 || ((b.1.length : Int) != 1)) (c := b.1.getD 0 0 != w.1.getD 0 0) (fun hb P hp => ⟨by simp only [Bool.or_eq_false_iff, aKJ] at hb; omega, hp⟩) (fun v8 e8 => ?_) rfl
      have hv : v8 = aHL x w b s p := by rw [e8, e6, e4]; rfl
      rw [<- hv] at hq
      cases v8 with
      | true => exact hq
      | false =>
        rw [if_neg (by simp)]
        simp only [Bool.false_eq_true, if_false] at hq
        have hv2 := hv.symm
        unfold aHL at hv2
        simp only [Bool.or_eq_false_iff, aKJ, Bool.not_eq_false', Bool.and_eq_true, decide_eq_true_eq] at hv2
        obtain ⟨⟨⟨⟨⟨o1, o2⟩, c1⟩, c2⟩, c3⟩, c4⟩ := hv2
        obtain ⟨O', eb, b1, b2, b3⟩ := aPZ (by simpa using h1) c3
        simp only [ex, ew, eb, List.getD_cons_zero, List.getD_cons_succ] at o1 o2 c1 c2 c4
        have ec : C' = C := by omega
        have ek : K' = K := by omega
        have eo : O' = O := by omega
        subst ec ek eo
        obtain ⟨a1, a2, a3, a4, a5, a6⟩ := JS o1
        obtain ⟨d1, d2, d3, d4, d5, d6⟩ := JS o2
        obtain ⟨P, eP, hP⟩ := QN (n := H) (k := K') (s := s) (p := p)
        obtain ⟨R, eR, hR⟩ := QN (n := V) (k := K') (s := s) (p := p)
        have hC : C' <= 8192 := by
          have : C' <= n * C' := Nat.le_mul_of_pos_left _ (by omega)
          have : n * C' <= n * C' * H := Nat.le_mul_of_pos_right _ (by omega)
          have : n * C' * H <= n * C' * H * V := Nat.le_mul_of_pos_right _ (by omega)
          omega
        have hn : n <= 8192 := by
          have : n <= n * C' := Nat.le_mul_of_pos_right _ (by omega)
          have : n * C' <= n * C' * H := Nat.le_mul_of_pos_right _ (by omega)
          have : n * C' * H <= n * C' * H * V := Nat.le_mul_of_pos_right _ (by omega)
          omega
        have k1 : C' * K' <= 8192 * 5 := Nat.mul_le_mul hC (by omega)
        have k2 : C' * K' * K' <= 8192 * 5 * 5 := Nat.mul_le_mul k1 (by omega)
        have k3 : H * V <= 16 * 16 := Nat.mul_le_mul (by omega) (by omega)
        unfold aNx aEP aHh at hq
        simp only [ex, ew, List.getD_cons_zero, List.getD_cons_succ, eP, eR] at hq ⊢
        refine ⟨?_⟩
        unfold EG
        rw [aGp (r := C') (n := K') (by omega), aGp (r := C' * K') (n := K') (by omega), aB (x.2.1 + w.2.1) (by omega) (by omega)]
        rw [<- Int.natCast_mul, <- Int.natCast_mul] at hq
        refine aNM ?_
        by_cases h9 : (V0 [(n : Int), (O' : Int), (P : Int), (R : Int)] (x.2.1 + w.2.1) ((C' * K' * K' : Nat) : Int)).2 = 0
        · obtain ⟨f1, f2, f3, f4⟩ := aMe h9
          rw [f4] at hq ⊢
          simp only [bne_self_eq_false, Bool.false_eq_true, if_false] at hq ⊢
          obtain ⟨n', m', p', q', e1, e2, e3, e4, _, _, _, _, s5, s6⟩ := aOt f3
          have e1 : n' = n := by omega
          have e2 : m' = O' := by omega
          have e3 : p' = P := by omega
          have e4 : q' = R := by omega
          subst e1 e2 e3 e4
          rw [s6]
          have g : FwdIn n' C' m' K' H V p' q' x.2.2 w.2.2 b.2.2 := ⟨by rw [x6]; exact Nat.mul_assoc _ _ _, w6, by rw [<- Nat.mul_assoc]; exact x5, by omega, ax, aw, ab, b3, by omega, by omega, by omega, by omega, by omega, s5⟩
          rw [aGp (r := H) (n := V) (by omega)]
          refine aP3 g (by omega) (by omega) (by omega) ?_ ?_
          · rw [Int.toNat_natCast]; simp
          · simp only [Int.toNat_natCast] at hq
            exact hq
        · rw [if_pos (by simpa using h9)]
          rw [if_pos (by simpa using h9)] at hq
          have : (V0 [(n : Int), (O' : Int), (P : Int), (R : Int)] (x.2.1 + w.2.1) ((C' * K' * K' : Nat) : Int)).1 = Z3 := by
            unfold V0 at h9 ⊢
            split
            · rfl
            · split
              · rfl
              · split
                · rfl
                · rename_i g1 g2 g3
                  rw [if_neg g1, if_neg g2, if_neg g3] at h9
                  exact absurd rfl h9
          dsimp only
          rw [this]
          exact hq
end Go.Proofs.Ytbenbhdagmnapaa
namespace Go.Proofs.Ytbenbhdagmnapaa
end Go.Proofs.Ytbenbhdagmnapaa

namespace Go.Proofs.Ytbenbhdagmnapaa
open Go.Mach Go.RowKit
set_option maxRecDepth 100000
set_option linter.unusedVariables false
set_option linter.unusedSimpArgs false
theorem aPJ (r c : Int) (h : 0 < szF [r, c]) : 1 <= r /\ r <= 4096 /\ 1 <= c /\ c <= 4096 /\ r * c <= 8192 /\ szF [r, c] = r * c := by
 have e : szF [r, c] = if ((decide (r < 1) || decide (4096 < r)) || decide (8192 < IntKind.i64.wrap (1 * r))) = true then 0 else if ((decide (c < 1) || decide (4096 < c)) || decide (8192 < IntKind.i64.wrap (IntKind.i64.wrap (1 * r) * c))) = true then 0 else IntKind.i64.wrap (IntKind.i64.wrap (1 * r) * c) := rfl
 rw [e] at h ⊢
 by_cases h1 : ((decide (r < 1) || decide (4096 < r)) || decide (8192 < IntKind.i64.wrap (1 * r))) = true
 ·rw [if_pos h1] at h; omega
 ·rw [if_neg h1] at h ⊢
  simp only [Bool.or_eq_true, decide_eq_true_eq, not_or] at h1
  rw [Int.one_mul, aB r (by omega) (by omega)] at h h1 ⊢
  by_cases h2 : ((decide (c < 1) || decide (4096 < c)) || decide (8192 < IntKind.i64.wrap (r * c))) = true
  ·rw [if_pos h2] at h; omega
  ·rw [if_neg h2] at h ⊢
   simp only [Bool.or_eq_true, decide_eq_true_eq, not_or] at h2
   have := JE r c 4096 4096 (by omega) (by omega) (by omega) (by omega) (by omega)
   rw [aB (r * c) (by omega) (by omega)] at h2 h ⊢
   omega
def RA (R C : Nat) (f : Nat -> Nat -> Int) : List Int := (List.range R).flatMap fun r => (List.range C).map (f r)
theorem aE1 (R C : Nat) (f : Nat -> Nat -> Int) : RA (R + 1) C f = RA R C f ++ (List.range C).map (f R) := by
 unfold RA
 rw [List.range_succ, List.flatMap_append]
 simp
theorem aKw (R C : Nat) (f : Nat -> Nat -> Int) : (RA R C f).length = R * C := by
 induction R with
 | zero => simp [RA]
 | succ R ih => rw [aE1, List.length_append, ih]; simp [Nat.add_mul]
def aBE (n : Int) (l : List T3) : Int := if l.all dY = true then (if l.all (fun t => (t.1.length : Int) == n) = true then 0 else 2) else 1
theorem aOG {n : Int} {l : List T3} {Q : Int -> Prop} (hl : l.length <= 1000000) (h : Q (aBE n l)) : ZM n l Q := by
  refine ⟨?_⟩
  unfold aBT
  refine ⟨?_⟩
  refine Loop.range (B := t5 l (l.length : Int) _ _) l.length (fun i => (i : Int)) (fun i => (l.take i).all dY = true) rfl ?_ ?_
  · intro i hi hI X hX
    unfold t5
    rw [if_pos (by simpa using hi)]
    refine ⟨by omega, sB ?_⟩
    simp only [Int.toNat_natCast]
    cases hm : dY (l.getD i ([], 0, [])) with
    | true =>
      rw [if_neg (by simp [hm])]
      rw [aB _ (by omega) (by omega)]
      exact hX (by rw [aI9 (d := ([], 0, [])) hi, hI, hm]; rfl)
    | false =>
      rw [if_pos (by simp [hm])]
      unfold aBE at h
      rw [if_neg (by rw [aLX hi hm]; simp)] at h
      exact h
  · intro hI X
    unfold t5
    rw [if_neg (by simp)]
    rw [List.take_length] at hI
    unfold aBE at h
    rw [if_pos hI] at h
    refine ⟨?_⟩
    refine Loop.range (B := uL n l (l.length : Int) _ _) l.length (fun i => (i : Int)) (fun i => (l.take i).all (fun t => (t.1.length : Int) == n) = true) rfl ?_ ?_
    · intro i hi hJ X hX
      unfold uL
      rw [if_pos (by simpa using hi)]
      refine ⟨by omega, ?_⟩
      simp only [Int.toNat_natCast]
      cases hm : (((l.getD i ([], 0, [])).1.length : Int) == n) with
      | true =>
        rw [if_neg (by unfold bne; rw [hm]; simp)]
        rw [aB _ (by omega) (by omega)]
        exact hX (by rw [aI9 (d := ([], 0, [])) hi, hJ, hm]; rfl)
      | false =>
        rw [if_pos (by unfold bne; rw [hm]; rfl)]
        rw [if_neg (by rw [aLX (d := ([], 0, [])) hi hm]; simp)] at h
        exact h
    · intro hJ X
      unfold uL
      rw [if_neg (by simp)]
      rw [List.take_length] at hJ
      rw [if_pos hJ] at h
      exact h
def RM (s : Int) (g : Nat -> Int) : Nat -> Int
 | 0 => s
 | n + 1 => RM s g n + g n
theorem aH9 (s : Int) (g : Nat -> Int) (n : Nat) : RM s g n = s + i6 g n := by
 induction n with
 | zero => simp [RM, i6]
 | succ n ih => simp only [RM, i6]; rw [ih, Int.add_assoc]
theorem aLd {s : Int} {g : Nat -> Int} {n : Nat} (hs : -1048576 <= s /\ s <= 1048576) (hn : n <= 1000000) (h : ∀ i, -16384 <= g i /\ g i <= 16384) : -17432576000 <= RM s g n /\ RM s g n <= 17432576000 := by
 have := aIX g 16384 n fun i _ => h i
 rw [aH9]
 omega
theorem aKo {s : Int} {g : Nat -> Int} {n : Nat} (hs : -1048576 <= s /\ s <= 1048576) (hn : n <= 959) (h : ∀ i, -16384 <= g i /\ g i <= 16384) : -16760832 <= RM s g n /\ RM s g n <= 16760832 := by
 have := aIX g 16384 n fun i _ => h i
 rw [aH9]
 omega
theorem mac {s a b : Int} (hs : -17432576000 <= s /\ s <= 17432576000) (ha : -128 <= a /\ a <= 127) (hb : -128 <= b /\ b <= 127) : IntKind.i64.wrap (s + IntKind.i64.wrap (IntKind.i64.wrap a * IntKind.i64.wrap b)) = s + a * b := by
 have := aNk ha hb
 rw [aB a (by omega) (by omega), aB b (by omega) (by omega), aB (a * b) (by omega) (by omega), aB _ (by omega) (by omega)]
def fwC (n : Nat) (e be : Int) (b x w : List Int) (r o : Nat) : Int := RM (alF (b.getD o 0) be e) (fun i => x.getD (r * n + i) 0 * w.getD (o * n + i) 0) n
theorem aPI {r o n : Nat} {bd b xd x wd w : List Int} {be e xe we : Int} (ho : o < b.length) (hx : r * n + n <= x.length) (hw : o * n + n <= w.length) (lx : x.length <= 8192) (lw : w.length <= 8192) (hn : n <= 959) (bx : All8 x) (bw : All8 w) (bb : All8 b) {Q : Int -> Prop} (h : Q (fwC n e be b x w r o)) : rX (r : Int) (o : Int) bd be b e (n : Int) xd xe x wd we w Q := by
 refine ⟨?_⟩
 unfold EV
 refine ⟨by omega, ?_⟩
 have hb := bb.at_ o
 simp only [Int.toNat_natCast]
 rw [aB (b.getD o 0) (by omega) (by omega)]
 refine aN1 ⟨?_⟩
 refine Loop.range (B := jL (r : Int) (o : Int) (n : Int) x w (n : Int) _) (f := fun i => (RM (alF (b.getD o 0) be e) (fun i => x.getD (r * n + i) 0 * w.getD (o * n + i) 0) i, (i : Int))) n (fun _ => True) trivial ?_ ?_
 ·intro i hi _ X hX
  unfold jL
  rw [if_pos (by simpa using hi)]
  dsimp only
  have hs := aLd (s := alF (b.getD o 0) be e) (g := fun i => x.getD (r * n + i) 0 * w.getD (o * n + i) 0) (n := i) (aHK (bb.at_ o)) (by omega) (fun i => aNk (bx.at_ _) (bw.at_ _))
  rw [ix (r := r) (n := n) (i := i) (by omega)]
  rw [ix (r := o) (n := n) (i := i) (by omega)]
  refine ⟨⟨by omega, by omega⟩, ⟨by omega, by omega⟩, ?_⟩
  simp only [Int.toNat_natCast]
  rw [mac hs (bx.at_ _) (bw.at_ _), aB ((i : Int) + 1) (by omega) (by omega)]
  exact hX trivial
 ·intro _ X
  unfold jL
  rw [if_neg (by simp)]
  exact h
theorem aOc {n : Nat} {e be : Int} {b x w : List Int} {r o : Nat} (hn : n <= 959) (bx : All8 x) (bw : All8 w) (bb : All8 b) : -16760832 <= fwC n e be b x w r o /\ fwC n e be b x w r o <= 16760832 := aKo (aHK (bb.at_ o)) hn (fun i => aNk (bx.at_ _) (bw.at_ _))
def aMA (R C n e : Int) (f : Nat -> Nat -> Int) : T3 × Int :=
 if ((!GK n || decide (128 < e)) || decide (e < -128)) = true then (Z3, 3)
 else if (!decide (0 < szF [R, C])) = true then (Z3, 1)
 else (([R, C], (e, RA R.toNat C.toNat f)), 0)
theorem aIY {b bd x xd w wd : List Int} {be e2 n2 xe we : Int} {R C n e : Int} {f : Nat -> Nat -> Int} {Q : T3 × Int -> Prop}
    (hc : GK n = true -> 0 < szF [R, C] -> ∀ r q : Nat, r < R.toNat -> q < C.toNat -> -2147483648 <= f r q /\ f r q <= 2147483647 /\ ∀ K : Int -> Prop, K (f r q) -> rX (r : Int) (q : Int) bd be b e2 n2 xd xe x wd we w K)
    (h : Q (aMA R C n e f)) : dW R C n e bd be b e2 n2 xd xe x wd we w Q := by
  refine ⟨?_⟩
  unfold lH
  refine aL1 ?_
  unfold aMA at h
  by_cases h1 : ((!GK n || decide (128 < e)) || decide (e < -128)) = true
  · rw [if_pos h1] at h ⊢; exact h
  · rw [if_neg h1] at h ⊢
    refine aDx ?_
    by_cases h2 : (!decide (0 < szF [R, C])) = true
    · rw [if_pos h2] at h ⊢; exact h
    · rw [if_neg h2] at h ⊢
      have hfit : GK n = true := by
        simp only [Bool.or_eq_true, not_or] at h1
        have := h1.1.1
        cases hq : GK n with
        | true => rfl
        | false => rw [hq] at this; exact absurd rfl this
      have hsz : 0 < szF [R, C] := by simpa using h2
      have hc := hc hfit hsz
      obtain ⟨k1, k2, k3, k4, k5, _⟩ := aPJ R C hsz
      obtain ⟨R, rfl⟩ := Int.eq_ofNat_of_zero_le (show 0 <= R by omega)
      obtain ⟨C, rfl⟩ := Int.eq_ofNat_of_zero_le (show 0 <= C by omega)
      have hRC : R * C <= 8192 := by rw [<- Int.natCast_mul] at k5; omega
      simp only [Int.toNat_natCast] at hc h
      refine ⟨?_⟩
      refine Loop.range (B := cI (C : Int) bd be b e2 n2 xd xe x wd we w (R : Int) _) (f := fun r => ((r : Int), RA r C f)) R (fun _ => True) trivial ?_ ?_
      · intro r hr _ X hX
        unfold cI
        rw [if_pos (by simpa using hr)]
        refine ⟨?_⟩
        dsimp only
        have hl := aKw r C f
        have hrc : (r + 1) * C <= R * C := Nat.mul_le_mul_right C hr
        rw [Nat.add_mul, Nat.one_mul] at hrc
        rw [show (0, RA r C f) = ((fun q : Nat => ((q : Int), RA r C f ++ (List.range q).map (f r))) 0) by simp]
        refine Loop.range (f := fun q => ((q : Int), RA r C f ++ (List.range q).map (f r))) C (fun _ => True) trivial ?_ ?_
        · intro q hcc _ Y hY
          unfold eX
          rw [if_pos (by simpa using hcc)]
          obtain ⟨m1, m2, m3⟩ := hc r q hr hcc
          refine m3 _ ?_
          refine ⟨?_, ?_⟩
          · simp only [List.length_append, List.length_map, List.length_range, List.length_singleton, hl]
            omega
          · have := hY trivial
            simp only [List.range_succ, List.map_append, List.map_cons, List.map_nil, <- List.append_assoc] at this
            rw [aLU _ m1 m2, aB ((q : Int) + 1) (by omega) (by omega)]
            exact this
        · intro _ Y
          unfold eX
          rw [if_neg (by simp)]
          have := hX trivial
          simp only [aE1] at this
          dsimp only
          rw [aB ((r : Int) + 1) (by omega) (by omega)]
          exact this
      · intro _ X
        unfold cI
        rw [if_neg (by simp)]
        exact h
theorem aHr {a : T3} (h : dY a = true) : (0 < szF a.1 /\ (a.2.2.length : Int) = szF a.1) /\ -64 <= a.2.1 /\ a.2.1 <= 64 /\ -128 ∉ a.2.2 := by
 obtain ⟨h1, h2, h3, h4⟩ := jO.1 h
 exact ⟨⟨h1, h2⟩, h3.1, h3.2, h4⟩
theorem aLo {n : Int} (h : GK n = true) : 0 <= n /\ n <= 959 := aKv.1 h
theorem aPU {t : T3} (h : dY t = true) (h2 : t.1.length = 2) : ∃ R C : Nat, t.1 = [(R : Int), (C : Int)] /\ 1 <= R /\ R <= 4096 /\ 1 <= C /\ C <= 4096 /\ R * C <= 8192 /\ t.2.2.length = R * C /\ -64 <= t.2.1 /\ t.2.1 <= 64 := by
  obtain ⟨m1, m2, m3, _⟩ := aHr h
  obtain ⟨l1, l2⟩ := m1
  obtain ⟨d, e, v⟩ := t
  match d, h2 with
  | [r, c], _ =>
    obtain ⟨k1, k2, k3, k4, k5, k6⟩ := aPJ r c l1
    obtain ⟨R, rfl⟩ := Int.eq_ofNat_of_zero_le (show 0 <= r by omega)
    obtain ⟨C, rfl⟩ := Int.eq_ofNat_of_zero_le (show 0 <= c by omega)
    simp only at l2
    have l2' : (v.length : Int) = ((R * C : Nat) : Int) := by rw [l2, k6, Int.natCast_mul]
    rw [<- Int.natCast_mul] at k5
    exact ⟨R, C, rfl, by omega, by omega, by omega, by omega, by omega, by show v.length = _; omega, m2, m3⟩
theorem aPc {t : T3} (h : dY t = true) (h2 : t.1.length = 1) : ∃ C : Nat, t.1 = [(C : Int)] /\ 1 <= C /\ C <= 4096 /\ t.2.2.length = C := by
  obtain ⟨m1, m2, m3, _⟩ := aHr h
  obtain ⟨l1, l2⟩ := m1
  obtain ⟨d, e, v⟩ := t
  match d, h2 with
  | [c], _ =>
    obtain ⟨k1, k2, k3⟩ := aPP l1
    obtain ⟨C, rfl⟩ := Int.eq_ofNat_of_zero_le (show 0 <= c by omega)
    simp only at l2
    exact ⟨C, rfl, by omega, by omega, by show v.length = _; omega⟩
theorem aOX {n : Int} {x w : T3} (h : aBE n [x, w] = 0) : dY x = true /\ dY w = true /\ (x.1.length : Int) = n /\ (w.1.length : Int) = n := by
 unfold aBE at h
 split at h
 ·rename_i h1
  split at h
  ·rename_i h2
   simp only [List.all_cons, List.all_nil, Bool.and_true, Bool.and_eq_true, beq_iff_eq] at h1 h2
   exact ⟨h1.1, h1.2, h2.1, h2.2⟩
  ·omega
 ·omega
def aMS (x w b : T3) : T3 × Int :=
 if (!dY b) = true then (Z3, 1)
 else if (aBE 2 [x, w] != 0) = true then (Z3, aBE 2 [x, w])
 else if (((w.1.getD 1 0 != x.1.getD 1 0) || ((b.1.length : Int) != 1)) || (b.1.getD 0 0 != w.1.getD 0 0)) = true then (Z3, 2)
 else aMA (x.1.getD 0 0) (w.1.getD 0 0) (x.1.getD 1 0) (x.2.1 + w.2.1) (fwC (x.1.getD 1 0).toNat (x.2.1 + w.2.1) b.2.1 b.2.2 x.2.2 w.2.2)
theorem aNp {x w b : T3} {Q : T3 × Int -> Prop} (bx : All8 x.2.2) (bw : All8 w.2.2) (bb : All8 b.2.2) (h : Q (aMS x w b)) : FK x w b Q := by
  refine ⟨?_⟩
  unfold LK
  refine sB ?_
  unfold aMS at h
  by_cases h1 : (!dY b) = true
  · rw [if_pos h1] at h
    rw [if_pos h1]; exact h
  · rw [if_neg h1] at h
    rw [if_neg h1]
    refine aOG (by simp) ?_
    by_cases h2 : (aBE 2 [x, w] != 0) = true
    · rw [if_pos h2] at h ⊢; exact h
    · rw [if_neg h2] at h ⊢
      obtain ⟨mx, mw, lx, lw⟩ := aOX (by simpa using h2)
      have mb : dY b = true := by simpa using h1
      obtain ⟨R, n, ex, x1, x2, x3, x4, x5, x6, x7, x8⟩ := aPU mx (by omega)
      obtain ⟨C, m, ew, w1, w2, w3, w4, w5, w6, w7, w8⟩ := aPU mw (by omega)
      rw [ex, ew] at h ⊢
      refine ⟨by simp, by simp, by simp, by simp, ?_⟩
      have key : ∀ v : Bool, (((((m : Int) != (n : Int)) || ((b.1.length : Int) != 1)) || (b.1.getD 0 0 != (C : Int))) = v) -> (if v = true then Q (Z3, 2) else dW (R : Int) (C : Int) (n : Int) (IntKind.i64.wrap (x.2.1 + w.2.1)) b.1 b.2.1 b.2.2 (IntKind.i64.wrap (x.2.1 + w.2.1)) (n : Int) [(R : Int), (n : Int)] x.2.1 x.2.2 [(C : Int), (m : Int)] w.2.1 w.2.2 (fun r5 => Q ((r5.1.1, (r5.1.2.1, r5.1.2.2)), r5.2))) := by
        intro v hv
        cases v with
        | true =>
          rw [if_pos rfl]
          rw [if_pos (by simpa using hv)] at h
          exact h
        | false =>
          rw [if_neg (by simp)]
          rw [if_neg (by show ¬ _ = true; rw [show ((((([(C : Int), (m : Int)].getD 1 0) != ([(R : Int), (n : Int)].getD 1 0)) || ((b.1.length : Int) != 1)) || (b.1.getD 0 0 != [(C : Int), (m : Int)].getD 0 0))) = false from hv]; simp)] at h
          simp only [Bool.or_eq_false_iff, bne_eq_false_iff_eq] at hv
          obtain ⟨⟨h3, h4⟩, h5⟩ := hv
          obtain ⟨D, eb, b1, b2, b3⟩ := aPc mb (by omega)
          have hD : D = C := by
            have : (D : Int) = (C : Int) := by rw [eb] at h5; simpa using h5
            omega
          have hmn : m = n := by omega
          subst hD; subst hmn
          rw [aB (x.2.1 + w.2.1) (by omega) (by omega)]
          refine aIY (f := fwC m (x.2.1 + w.2.1) b.2.1 b.2.2 x.2.2 w.2.2) ?_ h
          intro hfit hsz r c hr hcc
          have hn := aLo hfit
          have := aOc (n := m) (e := x.2.1 + w.2.1) (be := b.2.1) (r := r) (o := c) (by omega) bx bw bb
          refine ⟨by omega, by omega, fun K hK => ?_⟩
          simp only [Int.toNat_natCast] at hr hcc
          have k1 : (r + 1) * m <= R * m := Nat.mul_le_mul_right m hr
          have k2 : (c + 1) * m <= D * m := Nat.mul_le_mul_right m hcc
          rw [Nat.add_mul, Nat.one_mul] at k1 k2
          exact aPI (by omega) (by omega) (by omega) (by omega) (by omega) (by omega) bx bw bb hK
      show (if (((m : Int) != (n : Int)) || ((b.1.length : Int) != 1)) = true then _ else _)
      by_cases h3 : (((m : Int) != (n : Int)) || ((b.1.length : Int) != 1)) = true
      · rw [if_pos h3]
        exact key true (by rw [h3]; rfl)
      · rw [if_neg h3]
        have h4 : b.1.length = 1 := by
          simp only [Bool.or_eq_true, not_or, bne_iff_ne, ne_eq, Classical.not_not] at h3
          omega
        refine ⟨⟨by omega, by omega⟩, key _ ?_⟩
        have h3' : (((m : Int) != (n : Int)) || ((b.1.length : Int) != 1)) = false := by simpa using h3
        rw [h3']
        rfl
end Go.Proofs.Ytbenbhdagmnapaa

namespace Go.Proofs.Ytbenbhdagmnapaa
open Go.Mach
set_option maxRecDepth 100000
set_option linter.unusedVariables false
set_option linter.unusedSimpArgs false
theorem aHZ (n : Nat) (f : Nat -> Int) : tab (n + 1) f = tab n f ++ [f n] := by
 unfold tab
 rw [List.range_succ, List.map_append]
 rfl
theorem WA {α : Type} {l : List α} {i : Nat} (h : i < l.length) (d : α) : l.take (i + 1) = l.take i ++ [l.getD i d] := by
 rw [List.take_add_one, List.getElem?_eq_getElem h, List.getD_eq_getElem?_getD, List.getElem?_eq_getElem h]; rfl
theorem aKC {d : List Int} {k s : Int} {Q : (Int × Int × Int × Int × Int × Int) × Bool -> Prop} (h1 : ((d.length : Int) != 4) = true -> Q ((0, (0, (0, (0, (0, 0))))), false))
  (h2 : ((d.length : Int) != 4) = false -> Q ((d.getD 2 0, (d.getD 3 0, (k, (s, (bR (d.getD 2 0) k s 0, bR (d.getD 3 0) k s 0))))), decide (0 < bR (d.getD 2 0) k s 0) && decide (0 < bR (d.getD 3 0) k s 0))) : QP d k s Q := by
 refine ⟨?_⟩
 unfold aA7
 split
 ·rename_i h; exact h1 h
 ·rename_i h
  have h := Bool.eq_false_iff.2 h
  have : (d.length : Int) = 4 := by simpa using h
  exact ⟨by omega, by omega, aA0 (aA0 (h2 h))⟩
def CG (H V : Nat) (k s : Int) (P Q t : Nat) : List Int := (iY H V ((t % (P * Q) / Q : Nat) : Int) ((t % (P * Q) % Q : Nat) : Int) k s 0).map fun z => ((t / (P * Q) * H * V : Nat) : Int) + z.1
theorem aFU {n H V : Nat} {a : Int} (h : n * H * V <= 100000000) (ha : 0 <= a /\ a <= 100000000) : IntKind.i64.wrap (IntKind.i64.wrap (IntKind.i64.wrap ((n : Int) * (H : Int)) * (V : Int)) + a) = ((n * H * V : Nat) : Int) + a \/ V = 0 := by
 by_cases hV : V = 0
 ·exact .inr hV
 ·left
  have h1 : n * H <= n * H * V := Nat.le_mul_of_pos_right _ (by omega)
  rw [aGp (r := n) (n := H) (by omega), aGp (r := n * H) (n := V) (by omega), aB _ (by omega) (by omega)]
theorem aND {n H V : Nat} {w : List (Int × Int × Int)} {K0 : List Int -> Prop} (hb : n * H * V <= 100000000) (hV : 1 <= V) (hw : w.length <= 1000000) (hz : ∀ z ∈ w, 0 <= z.1 /\ z.1 <= 100000000) (h : K0 (w.map fun z => ((n * H * V : Nat) : Int) + z.1)) :
  fP n (w.length : Int) H V w K0 (0, []) := by
 refine ⟨?_⟩
 have e0 : ((0 : Int), ([] : List Int)) = (fun i : Nat => ((i : Int), (w.take i).map fun z => ((n * H * V : Nat) : Int) + z.1)) 0 := by simp
 rw [e0]
 refine Loop.range (B := cL n (w.length : Int) H V w K0) w.length (fun i : Nat => ((i : Int), (w.take i).map fun z => ((n * H * V : Nat) : Int) + z.1)) (fun _ => True) trivial ?_ ?_
 ·intro i hi _ X hX
  have hX := hX trivial
  unfold cL
  rw [if_pos (decide_eq_true (show (i : Int) < (w.length : Int) by omega))]
  dsimp only at hX ⊢
  have hm := hz (w.getD i (0, 0, 0)) (by rw [List.getD_eq_getElem?_getD, List.getElem?_eq_getElem hi]; exact List.getElem_mem hi)
  refine ⟨by omega, ?_⟩
  rw [Int.toNat_natCast]
  rcases aFU hb hm with e | e
  ·rw [e, aB ((i : Int) + 1) (by omega) (by omega)]
   refine ⟨by simp; omega, ?_⟩
   rw [WA hi (0, 0, 0), List.map_append] at hX
   exact hX
  ·omega
 ·intro _ X
  unfold cL
  rw [if_neg (by simp)]
  simpa using h
def qM (X : List Int) (b : Int) (l : List Int) : Int := l.foldl (fun b a => if decide (X.getD b.toNat 0 < X.getD a.toNat 0) = true then a else b) b
def W9 (X l : List Int) : Int := qM X (l.getD 0 0) l
theorem KU (X : List Int) : ∀ (l : List Int) (b : Int), qM X b l = b \/ qM X b l ∈ l
  | [], b => .inl rfl
  | a :: l, b => by
    unfold qM
    rw [List.foldl_cons]
    by_cases h : decide (X.getD b.toNat 0 < X.getD a.toNat 0) = true
    · rw [if_pos h]
      rcases KU X l a with e | e
      · right; unfold qM at e; rw [e]; exact List.mem_cons_self
      · right; exact List.mem_cons_of_mem _ e
    · rw [if_neg h]
      rcases KU X l b with e | e
      · left; exact e
      · right; exact List.mem_cons_of_mem _ e
theorem aFJ {X l : List Int} (h : l ≠ []) : W9 X l ∈ l := by
  unfold W9
  cases l with
  | nil => exact absurd rfl h
  | cons a l =>
    rcases KU X (a :: l) ((a :: l).getD 0 0) with e | e
    · rw [e]; simp
    · exact e
theorem aNJ {X l : List Int} {K0 : Int -> Prop} (hl : l ≠ []) (hn : l.length <= 1000000) (hr : ∀ a ∈ l, 0 <= a /\ a < (X.length : Int)) (h : K0 (W9 X l)) : b6 (l.length : Int) X l K0 (l.getD 0 0, 0) := by
 refine ⟨?_⟩
 have e0 : (l.getD 0 0, (0 : Int)) = (fun i : Nat => (qM X (l.getD 0 0) (l.take i), (i : Int))) 0 := by simp [qM]
 rw [e0]
 have hmem : ∀ i, 0 <= qM X (l.getD 0 0) (l.take i) /\ qM X (l.getD 0 0) (l.take i) < (X.length : Int) := by
  intro i
  rcases KU X (l.take i) (l.getD 0 0) with e | e
  ·rw [e]
   refine hr _ ?_
   cases l with
   | nil => exact absurd rfl hl
   | cons a l => simp
  ·exact hr _ (List.mem_of_mem_take e)
 refine Loop.range (B := bA (l.length : Int) X l K0) l.length (fun i : Nat => (qM X (l.getD 0 0) (l.take i), (i : Int))) (fun _ => True) trivial ?_ ?_
 ·intro i hi _ Y hY
  have hY := hY trivial
  unfold bA
  rw [if_pos (decide_eq_true (show (i : Int) < (l.length : Int) by omega))]
  dsimp only at hY ⊢
  have hm := hr (l.getD i 0) (V6 hi)
  refine ⟨by omega, ?_⟩
  rw [Int.toNat_natCast]
  refine ⟨hm, hmem i, ?_⟩
  have e1 : qM X (l.getD 0 0) (l.take (i + 1)) = if decide (X.getD (qM X (l.getD 0 0) (l.take i)).toNat 0 < X.getD (l.getD i 0).toNat 0) = true then l.getD i 0 else qM X (l.getD 0 0) (l.take i) := by
   rw [WA hi 0]
   unfold qM
   rw [List.foldl_append]
   rfl
  rw [e1] at hY
  by_cases hc : decide (X.getD (qM X (l.getD 0 0) (l.take i)).toNat 0 < X.getD (l.getD i 0).toNat 0) = true
  ·rw [if_pos hc] at hY ⊢
   refine ⟨?_⟩
   unfold bO
   rw [aB ((i : Int) + 1) (by omega) (by omega)]
   exact hY
  ·rw [if_neg hc] at hY ⊢
   refine ⟨?_⟩
   unfold bO
   rw [aB ((i : Int) + 1) (by omega) (by omega)]
   exact hY
 ·intro _ Y
  unfold bA
  rw [if_neg (by simp)]
  have : qM X (l.getD 0 0) (l.take l.length) = W9 X l := by rw [List.take_length]; rfl
  dsimp only
  rw [this]; exact h
structure PoolIn (N H V P Q : Nat) (k s : Int) (X : List Int) : Prop where
 hx : X.length = N * (H * V)
 bx : N * (H * V) <= 8192
 hH : 1 <= H /\ H <= 16
 hV : 1 <= V /\ V <= 16
 hk : 1 <= k /\ k <= 5
 hs : 1 <= s /\ s <= 4
 hP : bR H k s 0 = P
 hQ : bR V k s 0 = Q
 p1 : 1 <= P
 q1 : 1 <= Q
theorem PoolIn.le {N H V P Q : Nat} {k s : Int} {X : List Int} (g : PoolIn N H V P Q k s X) : P <= 25 /\ Q <= 25 /\ N <= 8192 := by
 obtain ⟨P', e1, h1⟩ := QN (n := H) (k := k) (s := s) (p := 0)
 obtain ⟨Q', e2, h2⟩ := QN (n := V) (k := k) (s := s) (p := 0)
 have := g.hP
 have := g.hQ
 have h3 := g.bx
 have h4 := Nat.mul_le_mul (Nat.mul_le_mul (Nat.le_refl N) g.hH.1) g.hV.1
 rw [Nat.mul_assoc, Nat.mul_assoc] at h4
 have h5 : N * H * V = N * (H * V) := Nat.mul_assoc _ _ _
 omega
theorem aFF {n : Nat} {k s r : Int} {P : Nat} (h : bR n k s 0 = P) (h1 : 1 <= P) (hr : 0 <= r /\ r <= P - 1) : 0 <= s * r /\ s * r <= n - k := by
 obtain ⟨a, b, c, d, e, f⟩ := JS (n := (n : Int)) (k := k) (s := s) (p := 0) (by omega)
 have h2 : (P : Int) - 1 = (n + 2 * 0 - k) / s := by omega
 have h3 : s * ((n + 2 * 0 - k) / s) <= n + 2 * 0 - k := Int.mul_ediv_self_le (by omega)
 have h4 : s * r <= s * ((P : Int) - 1) := Int.mul_le_mul_of_nonneg_left hr.2 (by omega)
 rw [h2] at h4
 exact ⟨Int.mul_nonneg (by omega) hr.1, by omega⟩
theorem aMQ {H V P Q : Nat} {k s r c : Int} (hP : bR H k s 0 = P) (hQ : bR V k s 0 = Q) (p1 : 1 <= P) (q1 : 1 <= Q) (hr : 0 <= r /\ r <= P - 1) (hc : 0 <= c /\ c <= Q - 1) : iY H V r c k s 0 ≠ [] := by
 obtain ⟨a, b, _⟩ := JS (n := (H : Int)) (k := k) (s := s) (p := 0) (by omega)
 obtain ⟨a', _⟩ := JS (n := (V : Int)) (k := k) (s := s) (p := 0) (by omega)
 have h1 := aFF hP p1 hr
 have h2 := aFF hQ q1 hc
 have hnw : aK1 H V r c k s 0 = false := by
  unfold aK1 inP
  rw [hP, hQ]
  simp only [Bool.or_eq_false_iff, decide_eq_false_iff_not, Bool.not_eq_false', Bool.and_eq_true, decide_eq_true_eq]
  omega
 unfold iY
 rw [if_neg (by rw [hnw]; simp)]
 have hm : (((s * r - 0 + ((0 : Nat) : Int)) * V + (s * c - 0 + ((0 : Nat) : Int)), ((0 : Nat) : Int), ((0 : Nat) : Int)) : Int × Int × Int) ∈ TB H V (s * r - 0) (s * c - 0) k.toNat k.toNat := by
  unfold TB uZ yK
  refine List.mem_flatMap.2 ⟨0, List.mem_range.2 (by omega), List.mem_flatMap.2 ⟨0, List.mem_range.2 (by omega), ?_⟩⟩
  rw [if_pos (by unfold inP; simp only [Bool.and_eq_true, decide_eq_true_eq]; omega)]
  exact List.mem_singleton.2 rfl
 intro e
 rw [e] at hm
 cases hm
section
variable {N H V P Q : Nat} {k s : Int} {X : List Int}
theorem PoolIn.cell (g : PoolIn N H V P Q k s X) {n i : Nat} (hn : n < N) (hi : i < P * Q) :
  (i / Q < P /\ i % Q < Q) /\ (iY H V ((i / Q : Nat) : Int) ((i % Q : Nat) : Int) k s 0).length <= 25 /\ (∀ z ∈ iY H V ((i / Q : Nat) : Int) ((i % Q : Nat) : Int) k s 0, 0 <= z.1 /\ z.1 < (H * V : Nat)) /\ iY H V ((i / Q : Nat) : Int) ((i % Q : Nat) : Int) k s 0 ≠ [] /\
   CG H V k s P Q (n * (P * Q) + i) = (iY H V ((i / Q : Nat) : Int) ((i % Q : Nat) : Int) k s 0).map fun z => ((n * H * V : Nat) : Int) + z.1 := by
 obtain ⟨l1, l2, l3⟩ := g.le
 have q1 := g.q1
 have p1 := g.p1
 have hk := g.hk
 have h1 : i / Q < P := Nat.div_lt_of_lt_mul (by rw [Nat.mul_comm]; exact hi)
 have h2 : i % Q < Q := Nat.mod_lt _ (by omega)
 obtain ⟨K, hK⟩ : ∃ K : Nat, k = K := ⟨k.toNat, by omega⟩
 subst hK
 refine ⟨⟨h1, h2⟩, ?_, ?_, ?_, ?_⟩
 ·have := aBC (rows := H) (cols := V) (r := ((i / Q : Nat) : Int)) (c := ((i % Q : Nat) : Int)) (s := s) (p := 0) (K := K)
  have : K * K <= 5 * 5 := Nat.mul_le_mul (by omega) (by omega)
  omega
 ·intro z hz
  obtain ⟨a, r, c, rfl, ha, _⟩ := aC6 z hz
  exact ⟨by dsimp only; omega, by dsimp only; omega⟩
 ·exact aMQ g.hP g.hQ p1 q1 ⟨Int.natCast_nonneg _, by generalize i / Q = y at *; omega⟩ ⟨Int.natCast_nonneg _, by generalize i % Q = y at *; omega⟩
 ·unfold CG
  rw [ZO hi, YP hi]
theorem PoolIn.addr (g : PoolIn N H V P Q k s X) {n i : Nat} (hn : n < N) (hi : i < P * Q) : ∀ a ∈ CG H V k s P Q (n * (P * Q) + i), 0 <= a /\ a < (X.length : Int) := by
 obtain ⟨_, _, h3, _, h5⟩ := g.cell hn hi
 rw [h5]
 intro a ha
 obtain ⟨z, hz, rfl⟩ := List.mem_map.1 ha
 have := h3 z hz
 have h6 := D9 (r := n) (R := N) (n := H * V) (i := z.1.toNat) hn (by omega)
 have h7 : n * H * V = n * (H * V) := Nat.mul_assoc _ _ _
 rw [g.hx]
 omega
theorem aNb (g : PoolIn N H V P Q k s X) {n : Nat} (hn : n < N) {K0 : List Int × List Int -> Prop} {F : Nat -> Int} (hF : F = fun t => W9 X (CG H V k s P Q t))
  (h : K0 ((tab (n * (P * Q) + P * Q) F).map (fun a => X.getD a.toNat 0), tab (n * (P * Q) + P * Q) F)) :
  fT n ((P * Q : Nat) : Int) X H V k s Q K0 (0, (tab (n * (P * Q)) F).map (fun a => X.getD a.toNat 0), tab (n * (P * Q)) F) := by
 obtain ⟨l1, l2, l3⟩ := g.le
 have q1 := g.q1
 have hPQ : P * Q <= 25 * 25 := Nat.mul_le_mul l1 l2
 have hNN : n * (P * Q) <= 8192 * (25 * 25) := Nat.mul_le_mul (by omega) hPQ
 have hx := g.hx
 have bx := g.bx
 refine ⟨?_⟩
 have e0 : ((0 : Int), (tab (n * (P * Q)) F).map (fun a => X.getD a.toNat 0), tab (n * (P * Q)) F) = (fun i : Nat => ((i : Int), (tab (n * (P * Q) + i) F).map (fun a => X.getD a.toNat 0), tab (n * (P * Q) + i) F)) 0 := rfl
 rw [e0]
 refine Loop.range (B := cF n ((P * Q : Nat) : Int) X H V k s Q K0) (P * Q) (fun i : Nat => ((i : Int), (tab (n * (P * Q) + i) F).map (fun a => X.getD a.toNat 0), tab (n * (P * Q) + i) F)) (fun _ => True) trivial ?_ ?_
 ·intro i hi _ Y hY
  have hY := hY trivial
  obtain ⟨⟨c1, c2⟩, c3, c4, c5, c6⟩ := g.cell hn hi
  have c7 := g.addr hn hi
  unfold cF
  rw [if_pos (decide_eq_true (show (i : Int) < ((P * Q : Nat) : Int) by omega))]
  dsimp only at hY ⊢
  refine ⟨by omega, by omega, ?_⟩
  have e1 : IntKind.i64.wrap ((i : Int).tdiv (Q : Int)) = ((i / Q : Nat) : Int) := by
   rw [<- Int.ofNat_tdiv]; exact aB _ (by have := Int.natCast_nonneg (i / Q); generalize i / Q = y at *; omega) (by have := Nat.div_le_self i Q; generalize i / Q = y at *; omega)
  have e2 : (i : Int).tmod (Q : Int) = ((i % Q : Nat) : Int) := (Int.ofNat_tmod _ _).symm
  rw [e1, e2]
  refine aDc ?_
  have hb : n * H * V <= 100000000 := by
   have h7 : n * H * V = n * (H * V) := Nat.mul_assoc _ _ _
   have := Nat.mul_le_mul_right (H * V) (Nat.le_of_lt hn)
   omega
  refine aND hb g.hV.1 (by omega) (fun z hz => by
   have := c4 z hz
   have h8 : H * V <= 16 * 16 := Nat.mul_le_mul g.hH.2 g.hV.2
   omega) ?_
  rw [<- c6]
  have hne : CG H V k s P Q (n * (P * Q) + i) ≠ [] := by rw [c6]; simpa using c5
  have hlen : (CG H V k s P Q (n * (P * Q) + i)).length <= 25 := by rw [c6]; simpa using c3
  have hpos : 0 < (CG H V k s P Q (n * (P * Q) + i)).length := List.length_pos_iff.2 hne
  refine ⟨by omega, ?_⟩
  refine aNJ hne (by omega) c7 ?_
  have hb := c7 _ (aFJ (X := X) hne)
  refine ⟨hb, by simp; omega, by simp; omega, ?_⟩
  rw [aB ((i : Int) + 1) (by omega) (by omega)]
  rw [show n * (P * Q) + (i + 1) = n * (P * Q) + i + 1 by omega, aHZ, List.map_append] at hY
  have eF : F (n * (P * Q) + i) = W9 X (CG H V k s P Q (n * (P * Q) + i)) := by rw [hF]
  rw [eF] at hY
  exact hY
 ·intro _ Y
  unfold cF
  rw [if_neg (by simp)]
  exact h
theorem aMN (g : PoolIn N H V P Q k s X) {K0 : List Int × List Int -> Prop} {F : Nat -> Int} (hF : F = fun t => W9 X (CG H V k s P Q t))
  (h : K0 ((tab (N * (P * Q)) F).map (fun a => X.getD a.toNat 0), tab (N * (P * Q)) F)) :
  fM (N : Int) X H V k s P Q K0 (0, [], []) := by
 obtain ⟨l1, l2, l3⟩ := g.le
 refine ⟨?_⟩
 have e0 : ((0 : Int), ([] : List Int), ([] : List Int)) = (fun n : Nat => ((n : Int), (tab (n * (P * Q)) F).map (fun a => X.getD a.toNat 0), tab (n * (P * Q)) F)) 0 := by simp [tab]
 rw [e0]
 refine Loop.range (B := cJ (N : Int) X H V k s P Q K0) N (fun n : Nat => ((n : Int), (tab (n * (P * Q)) F).map (fun a => X.getD a.toNat 0), tab (n * (P * Q)) F)) (fun _ => True) trivial ?_ ?_
 ·intro n hn _ Y hY
  have hY := hY trivial
  unfold cJ
  rw [if_pos (decide_eq_true (show (n : Int) < (N : Int) by omega))]
  dsimp only at hY ⊢
  have hPQ : P * Q <= 25 * 25 := Nat.mul_le_mul l1 l2
  rw [aGp (r := P) (n := Q) (by omega)]
  refine aNb g hn hF ?_
  rw [aB ((n : Int) + 1) (by omega) (by omega)]
  rw [Nat.add_mul, Nat.one_mul] at hY
  exact hY
 ·intro _ Y
  unfold cJ
  rw [if_neg (by simp)]
  exact h
end
def plE (x : T3) (k s : Int) : Int :=
 if dY x = true then (if ((x.1.length : Int) != 4) = true then 2 else if (decide (0 < bR (x.1.getD 2 0) k s 0) && decide (0 < bR (x.1.getD 3 0) k s 0)) = true then 0 else 2) else 1
def plD (x : T3) (k s : Int) : List Int := [x.1.getD 0 0, x.1.getD 1 0, bR (x.1.getD 2 0) k s 0, bR (x.1.getD 3 0) k s 0]
def plN (x : T3) (k s : Int) : Nat := (x.1.getD 0 0 * x.1.getD 1 0).toNat * ((bR (x.1.getD 2 0) k s 0).toNat * (bR (x.1.getD 3 0) k s 0).toNat)
def plA (x : T3) (k s : Int) (t : Nat) : List Int := CG (x.1.getD 2 0).toNat (x.1.getD 3 0).toNat k s (bR (x.1.getD 2 0) k s 0).toNat (bR (x.1.getD 3 0) k s 0).toNat t
def aDu (x : T3) (k s : Int) : List Int := tab (plN x k s) fun t => W9 x.2.2 (plA x k s t)
def aH3 (x : T3) (k s : Int) : T3 × List Int × Int :=
 if (plE x k s != 0) = true then (Z3, [], plE x k s) else ((plD x k s, (x.2.1, (aDu x k s).map fun a => x.2.2.getD a.toNat 0)), aDu x k s, 0)
theorem aLx {x : T3} {k s : Int} (h : plE x k s = 0) : ∃ N H V P Q n m : Nat, x.1 = [(n : Int), (m : Int), (H : Int), (V : Int)] /\ N = n * m /\ PoolIn N H V P Q k s x.2.2 /\ dY x = true /\ (1 <= n /\ n <= 4096 /\ 1 <= m /\ m <= 4096) := by
 unfold plE at h
 split at h
 case isFalse => exact absurd h (by decide)
 rename_i hm
 split at h
 case isTrue => exact absurd h (by decide)
 rename_i hl
 split at h
 case isFalse => exact absurd h (by decide)
 rename_i hpq
 have hl : (x.1.length : Int) = 4 := by simpa using hl
 simp only [Bool.and_eq_true, decide_eq_true_eq] at hpq
 obtain ⟨n, m, H, V, e, h1, h2, h3, h4, h5, h6, _⟩ := aON hm hl
 rw [e] at hpq
 simp only [List.getD_cons_succ, List.getD_cons_zero] at hpq
 obtain ⟨P, eP, _⟩ := QN (n := (H : Int)) (k := k) (s := s) (p := 0)
 obtain ⟨Q, eQ, _⟩ := QN (n := (V : Int)) (k := k) (s := s) (p := 0)
 obtain ⟨a1, a2, a3, _⟩ := JS hpq.1
 obtain ⟨b1, _⟩ := JS hpq.2
 obtain ⟨_, hd, _, _⟩ := WU (jO.1 hm).1
 rw [e] at hd
 have hn := hd n (by simp)
 have hmm := hd m (by simp)
 exact ⟨n * m, H, V, P, Q, n, m, e, rfl, ⟨by rw [h6, Nat.mul_assoc], by rw [<- Nat.mul_assoc]; exact h5, by omega, by omega, a2, a3, eP, eQ, by omega, by omega⟩, hm, by omega⟩
theorem aOu {x : T3} {k s : Int} {Q : T3 × List Int × Int -> Prop} (h : Q (aH3 x k s)) : aDQ x k s Q := by
  refine ⟨?_⟩
  unfold aDR
  unfold aH3 at h
  refine sB ?_
  cases hm : dY (x.1, x.2.1, x.2.2) with
  | false =>
    have e : plE x k s = 1 := by unfold plE; rw [if_neg (by rw [show x = (x.1, x.2.1, x.2.2) from rfl, hm]; simp)]
    rw [e] at h
    exact h
  | true =>
    rw [if_neg (by simp)]
    refine aKC (fun hl => ?_) (fun hl => ?_)
    · have e : plE x k s = 2 := by unfold plE; rw [if_pos hm, if_pos hl]
      rw [e] at h
      exact h
    · cases hpq : (decide (0 < bR (x.1.getD 2 0) k s 0) && decide (0 < bR (x.1.getD 3 0) k s 0)) with
      | false =>
        have e : plE x k s = 2 := by unfold plE; rw [if_pos hm, if_neg (by rw [hl]; simp), if_neg (by rw [hpq]; simp)]
        rw [e] at h
        exact h
      | true =>
        have e : plE x k s = 0 := by unfold plE; rw [if_pos hm, if_neg (by rw [hl]; simp), if_pos hpq]
        rw [e, if_neg (by simp)] at h
        rw [if_neg (by simp)]
        obtain ⟨N, H, V, P, Q, n, m, ex, eN, g, _, hb⟩ := aLx e
        unfold aDu plN plA plD at h
        dsimp only
        rw [ex] at h ⊢
        simp only [List.getD_cons_succ, List.getD_cons_zero] at h ⊢
        rw [g.hP, g.hQ] at h ⊢
        have en : ((n : Int) * (m : Int)).toNat = N := by rw [eN, <- Int.natCast_mul]; exact Int.toNat_natCast _
        rw [en] at h
        simp only [Int.toNat_natCast] at h
        have hN : n * m <= 8192 := by rw [<- eN]; exact g.le.2.2
        rw [aGp (r := n) (n := m) (by omega), <- eN]
        refine ⟨by simp, by simp, by simp, by simp, aMN g rfl ?_⟩
        exact h
theorem aN7 {n H V : Nat} {w : List (Int × Int × Int)} {K0 : List Int -> Prop} (hb : n * H * V <= 100000000) (hV : 1 <= V) (hw : w.length <= 1000000) (hz : ∀ z ∈ w, 0 <= z.1 /\ z.1 <= 100000000) (h : K0 (w.map fun z => ((n * H * V : Nat) : Int) + z.1)) :
  fR n (w.length : Int) H V w K0 (0, []) := by
 refine ⟨?_⟩
 have e0 : ((0 : Int), ([] : List Int)) = (fun i : Nat => ((i : Int), (w.take i).map fun z => ((n * H * V : Nat) : Int) + z.1)) 0 := by simp
 rw [e0]
 refine Loop.range (B := cE n (w.length : Int) H V w K0) w.length (fun i : Nat => ((i : Int), (w.take i).map fun z => ((n * H * V : Nat) : Int) + z.1)) (fun _ => True) trivial ?_ ?_
 ·intro i hi _ X hX
  have hX := hX trivial
  unfold cE
  rw [if_pos (decide_eq_true (show (i : Int) < (w.length : Int) by omega))]
  dsimp only at hX ⊢
  have hm := hz (w.getD i (0, 0, 0)) (by rw [List.getD_eq_getElem?_getD, List.getElem?_eq_getElem hi]; exact List.getElem_mem hi)
  refine ⟨by omega, ?_⟩
  rw [Int.toNat_natCast]
  rcases aFU hb hm with e | e
  ·rw [e, aB ((i : Int) + 1) (by omega) (by omega)]
   refine ⟨by simp; omega, ?_⟩
   rw [WA hi (0, 0, 0), List.map_append] at hX
   exact hX
  ·omega
 ·intro _ X
  unfold cE
  rw [if_neg (by simp)]
  simpa using h
def aLB (X l : List Int) : Int := IntKind.i32.wrap (aEc l fun a => X.getD a.toNat 0)
theorem aNf {X l : List Int} {K0 : Int -> Prop} (hn : l.length <= 1000000) (hr : ∀ a ∈ l, 0 <= a /\ a < (X.length : Int)) (h : K0 (aLB X l)) : bZ (l.length : Int) X l K0 (0, 0) := by
 refine ⟨?_⟩
 have e0 : ((0 : Int), (0 : Int)) = (fun i : Nat => (IntKind.i32.wrap (i6 (fun j => X.getD (l.getD j 0).toNat 0) i), (i : Int))) 0 := by simp [i6, IntKind.wrap, IntKind.bits, IntKind.signed]
 rw [e0]
 refine Loop.range (B := aY (l.length : Int) X l K0) l.length (fun i : Nat => (IntKind.i32.wrap (i6 (fun j => X.getD (l.getD j 0).toNat 0) i), (i : Int))) (fun _ => True) trivial ?_ ?_
 ·intro i hi _ Y hY
  have hY := hY trivial
  unfold aY
  rw [if_pos (decide_eq_true (show (i : Int) < (l.length : Int) by omega))]
  dsimp only at hY ⊢
  have hm := hr (l.getD i 0) (V6 hi)
  refine ⟨by omega, ?_⟩
  rw [Int.toNat_natCast]
  refine ⟨hm, ?_⟩
  rw [aKa, aKb, aB ((i : Int) + 1) (by omega) (by omega)]
  exact hY
 ·intro _ Y
  unfold aY
  rw [if_neg (by simp)]
  unfold aLB at h
  rw [aGH l _ 0] at h
  exact h
section
variable {N H V P Q : Nat} {k s : Int} {X : List Int}
theorem aNT (g : PoolIn N H V P Q k s X) {n : Nat} (hn : n < N) {K0 : List Int -> Prop} {F : Nat -> Int} (hF : F = fun t => aLB X (CG H V k s P Q t)) (h : K0 (tab (n * (P * Q) + P * Q) F)) :
  fL n ((P * Q : Nat) : Int) X H V k s Q K0 (0, tab (n * (P * Q)) F) := by
 obtain ⟨l1, l2, l3⟩ := g.le
 have q1 := g.q1
 have hPQ : P * Q <= 25 * 25 := Nat.mul_le_mul l1 l2
 have hNN : n * (P * Q) <= 8192 * (25 * 25) := Nat.mul_le_mul (by omega) hPQ
 have hx := g.hx
 have bx := g.bx
 refine ⟨?_⟩
 have e0 : ((0 : Int), tab (n * (P * Q)) F) = (fun i : Nat => ((i : Int), tab (n * (P * Q) + i) F)) 0 := rfl
 rw [e0]
 refine Loop.range (B := cH n ((P * Q : Nat) : Int) X H V k s Q K0) (P * Q) (fun i : Nat => ((i : Int), tab (n * (P * Q) + i) F)) (fun _ => True) trivial ?_ ?_
 ·intro i hi _ Y hY
  have hY := hY trivial
  obtain ⟨⟨c1, c2⟩, c3, c4, c5, c6⟩ := g.cell hn hi
  have c7 := g.addr hn hi
  unfold cH
  rw [if_pos (decide_eq_true (show (i : Int) < ((P * Q : Nat) : Int) by omega))]
  dsimp only at hY ⊢
  refine ⟨by omega, by omega, ?_⟩
  have e1 : IntKind.i64.wrap ((i : Int).tdiv (Q : Int)) = ((i / Q : Nat) : Int) := by
   rw [<- Int.ofNat_tdiv]; exact aB _ (by have := Int.natCast_nonneg (i / Q); generalize i / Q = y at *; omega) (by have := Nat.div_le_self i Q; generalize i / Q = y at *; omega)
  have e2 : (i : Int).tmod (Q : Int) = ((i % Q : Nat) : Int) := (Int.ofNat_tmod _ _).symm
  rw [e1, e2]
  refine aDc ?_
  have hb : n * H * V <= 100000000 := by
   have h7 : n * H * V = n * (H * V) := Nat.mul_assoc _ _ _
   have := Nat.mul_le_mul_right (H * V) (Nat.le_of_lt hn)
   omega
  refine aN7 hb g.hV.1 (by omega) (fun z hz => by
   have := c4 z hz
   have h8 : H * V <= 16 * 16 := Nat.mul_le_mul g.hH.2 g.hV.2
   omega) ?_
  rw [<- c6]
  have hlen : (CG H V k s P Q (n * (P * Q) + i)).length <= 25 := by rw [c6]; simpa using c3
  refine aNf (by omega) c7 ⟨by simp; omega, ?_⟩
  rw [aB ((i : Int) + 1) (by omega) (by omega)]
  rw [show n * (P * Q) + (i + 1) = n * (P * Q) + i + 1 by omega, aHZ] at hY
  have eF : F (n * (P * Q) + i) = aLB X (CG H V k s P Q (n * (P * Q) + i)) := by rw [hF]
  rw [eF] at hY
  exact hY
 ·intro _ Y
  unfold cH
  rw [if_neg (by simp)]
  exact h
theorem aMj (g : PoolIn N H V P Q k s X) {K0 : List Int -> Prop} {F : Nat -> Int} (hF : F = fun t => aLB X (CG H V k s P Q t)) (h : K0 (tab (N * (P * Q)) F)) : fJ (N : Int) X H V k s P Q K0 (0, []) := by
 obtain ⟨l1, l2, l3⟩ := g.le
 refine ⟨?_⟩
 have e0 : ((0 : Int), ([] : List Int)) = (fun n : Nat => ((n : Int), tab (n * (P * Q)) F)) 0 := by simp [tab]
 rw [e0]
 refine Loop.range (B := cG (N : Int) X H V k s P Q K0) N (fun n : Nat => ((n : Int), tab (n * (P * Q)) F)) (fun _ => True) trivial ?_ ?_
 ·intro n hn _ Y hY
  have hY := hY trivial
  unfold cG
  rw [if_pos (decide_eq_true (show (n : Int) < (N : Int) by omega))]
  dsimp only at hY ⊢
  have hPQ : P * Q <= 25 * 25 := Nat.mul_le_mul l1 l2
  rw [aGp (r := P) (n := Q) (by omega)]
  refine aNT g hn hF ?_
  rw [aB ((n : Int) + 1) (by omega) (by omega)]
  rw [Nat.add_mul, Nat.one_mul] at hY
  exact hY
 ·intro _ Y
  unfold cG
  rw [if_neg (by simp)]
  exact h
end
def aPF (k : Int) : Int := IntKind.i64.wrap ((IntKind.i64.wrap (k.tdiv 2)) * 2)
def aNA (x : T3) (k s : Int) : T3 × Int :=
 if (plE x k s != 0) = true then (Z3, plE x k s) else ((plD x k s, (IntKind.i64.wrap (x.2.1 - aPF k), tab (plN x k s) fun t => aLB x.2.2 (plA x k s t))), 0)
theorem aPA {x : T3} {k s : Int} {Q : T3 × Int -> Prop} (h : Q (aNA x k s)) : aDa x k s Q := by
  refine ⟨?_⟩
  unfold aER
  unfold aNA at h
  refine sB ?_
  cases hm : dY (x.1, x.2.1, x.2.2) with
  | false =>
    have e : plE x k s = 1 := by unfold plE; rw [if_neg (by rw [show x = (x.1, x.2.1, x.2.2) from rfl, hm]; simp)]
    rw [e] at h
    exact h
  | true =>
    rw [if_neg (by simp)]
    refine aKC (fun hl => ?_) (fun hl => ?_)
    · have e : plE x k s = 2 := by unfold plE; rw [if_pos hm, if_pos hl]
      rw [e] at h
      exact h
    · cases hpq : (decide (0 < bR (x.1.getD 2 0) k s 0) && decide (0 < bR (x.1.getD 3 0) k s 0)) with
      | false =>
        have e : plE x k s = 2 := by unfold plE; rw [if_pos hm, if_neg (by rw [hl]; simp), if_neg (by rw [hpq]; simp)]
        rw [e] at h
        exact h
      | true =>
        have e : plE x k s = 0 := by unfold plE; rw [if_pos hm, if_neg (by rw [hl]; simp), if_pos hpq]
        rw [e, if_neg (by simp)] at h
        rw [if_neg (by simp)]
        obtain ⟨N, H, V, P, Q, n, m, ex, eN, g, _, hb⟩ := aLx e
        unfold plN plA plD at h
        dsimp only
        rw [ex] at h ⊢
        simp only [List.getD_cons_succ, List.getD_cons_zero] at h ⊢
        rw [g.hP, g.hQ] at h ⊢
        have en : ((n : Int) * (m : Int)).toNat = N := by rw [eN, <- Int.natCast_mul]; exact Int.toNat_natCast _
        rw [en] at h
        simp only [Int.toNat_natCast] at h
        have hN : n * m <= 8192 := by rw [<- eN]; exact g.le.2.2
        rw [aGp (r := n) (n := m) (by omega), <- eN]
        refine ⟨by simp, by simp, ⟨by decide, ?_⟩⟩
        refine ⟨by simp, by simp, aMj g rfl ?_⟩
        exact h
end Go.Proofs.Ytbenbhdagmnapaa

namespace Go.Proofs.Ytbenbhdagmnapaa
open Go.Mach
set_option maxRecDepth 100000
set_option linter.unusedVariables false
set_option linter.unusedSimpArgs false
def Prm8 (p : Prm) : Prop := All8 p.1.2.2 /\ All8 p.2.2.2.2
def Ten8 (l : List T3) : Prop := ∀ t ∈ l, All8 t.2.2
theorem Ten8.at_ {l : List T3} (h : Ten8 l) (i : Nat) : All8 (l.getD i Z3).2.2 := by
 rw [List.getD_eq_getElem?_getD]
 cases e : l[i]? with
 | none => intro y hy; cases hy
 | some t => exact h t (List.mem_of_getElem? e)
theorem Prm8.at_ {l : List Prm} (h : ∀ p ∈ l, Prm8 p) (i : Nat) : Prm8 (l.getD i j9) := by
 rw [List.getD_eq_getElem?_getD]
 cases e : l[i]? with
 | none => exact ⟨fun y hy => (by cases hy), fun y hy => (by cases hy)⟩
 | some t => exact h t (List.mem_of_getElem? e)
def CN (l : List T3) : T3 := l.getD (l.length - 1) Z3
noncomputable def aDC (x : Lay) (p : Prm) (l : List T3) : T3 × Bool × Int :=
 if (x.1 == 1) = true then ((aMS (CN l) p.1 p.2.2).1, true, (aMS (CN l) p.1 p.2.2).2)
 else if (x.1 == 2) = true then ((aJz (CN l) p.1 p.2.2 x.2.2.2.1 x.2.2.2.2.1).1, true, (aJz (CN l) p.1 p.2.2 x.2.2.2.1 x.2.2.2.2.1).2)
 else if (x.1 == 4) = true then ((aNA (CN l) x.2.2.1 x.2.2.2.1).1, true, (aNA (CN l) x.2.2.1 x.2.2.2.1).2)
 else if (x.1 == 7) = true then ((aNg (CN l) (l.getD x.2.2.2.2.2.1.toNat Z3)).1, true, (aNg (CN l) (l.getD x.2.2.2.2.2.1.toNat Z3)).2)
 else (Z3, false, 0)
theorem aKL {l : List T3} (h1 : l ≠ []) (h2 : l.length <= 1000) : IntKind.i64.wrap ((l.length : Int) - 1) = ((l.length - 1 : Nat) : Int) /\ 0 < l.length := by
 have := List.length_pos_iff.2 h1
 exact ⟨by rw [aB _ (by omega) (by omega)]; omega, this⟩
theorem aOZ {x : Lay} {p : Prm} {l : List T3} {Q : T3 × Bool × Int -> Prop} (h1 : l ≠ []) (h2 : l.length <= 1000) (h8 : Ten8 l) (hp : Prm8 p) (hx : x.1 = 7 -> 0 <= x.2.2.2.2.2.1 /\ x.2.2.2.2.2.1 < (l.length : Int)) (h : Q (aDC x p l)) : I5 x p l Q := by
  refine ⟨?_⟩
  unfold uJ
  obtain ⟨e, hl⟩ := aKL h1 h2
  rw [e]
  simp only [Int.toNat_natCast]
  refine ⟨by omega, ?_⟩
  unfold aDC CN at h
  split
  · rename_i e1
    rw [if_pos e1] at h
    exact aNp (h8.at_ _) hp.1 hp.2 h
  · rename_i e1
    rw [if_neg e1] at h
    split
    · rename_i e2
      rw [if_pos e2] at h
      exact aOM (h8.at_ _) hp.1 hp.2 h
    · rename_i e2
      rw [if_neg e2] at h
      split
      · rename_i e4
        rw [if_pos e4] at h
        exact aPA h
      · rename_i e4
        rw [if_neg e4] at h
        split
        · rename_i e7
          rw [if_pos e7] at h
          exact ⟨hx (by simpa using e7), aPS h⟩
        · rename_i e7
          rw [if_neg e7] at h
          exact h
noncomputable def vR (x : Lay) (p : Prm) (l : List T3) (s t : Int) : T3 × List Int × Int :=
 if ((aDC x p l).2.2 != 0) = true then (Z3, [], (aDC x p l).2.2)
 else if (aDC x p l).2.1 = true then ((DV (aDC x p l).1 8 s t).1, [], (DV (aDC x p l).1 8 s t).2)
 else if (x.1 == 3) = true then aH3 (CN l) x.2.2.1 x.2.2.2.1
 else if (x.1 == 5) = true then ((XE (CN l)).1, [], (XE (CN l)).2)
 else ((RQ (CN l)).1, [], (RQ (CN l)).2)
theorem aB7 {x : Lay} {p : Prm} {l : List T3} {s t : Int} {Q : T3 × List Int × Int -> Prop} (h1 : l ≠ []) (h2 : l.length <= 1000) (h8 : Ten8 l) (hp : Prm8 p) (hx : x.1 = 7 -> 0 <= x.2.2.2.2.2.1 /\ x.2.2.2.2.2.1 < (l.length : Int)) (h : Q (vR x p l s t)) : F9 x p l s t Q := by
  refine ⟨?_⟩
  unfold LH
  refine aOZ h1 h2 h8 hp hx ?_
  obtain ⟨e, hl⟩ := aKL h1 h2
  rw [e]
  simp only [Int.toNat_natCast]
  unfold vR CN at h
  split
  · rename_i e0
    rw [if_pos e0] at h; exact h
  · rename_i e0
    rw [if_neg e0] at h
    split
    · rename_i e1
      rw [if_pos e1] at h
      exact aKF h
    · rename_i e1
      rw [if_neg e1] at h
      refine ⟨by omega, ?_⟩
      split
      · rename_i e2
        rw [if_pos e2] at h
        exact aOu h
      · rename_i e2
        rw [if_neg e2] at h
        split
        · rename_i e3
          rw [if_pos e3] at h
          exact aOi ⟨h⟩
        · rename_i e3
          rw [if_neg e3] at h
          exact aL5 ⟨h⟩
theorem OM (x : Int) : -128 <= IntKind.i8.wrap x /\ IntKind.i8.wrap x <= 127 := by
 simp only [IntKind.wrap, IntKind.bits, IntKind.signed]
 simp
 split <;> omega
theorem aOR {a : T3} {b s t : Int} : All8 (DV a b s t).1.2.2 := by
 unfold DV
 split
 ·intro y hy; cases hy
 split
 ·intro y hy; cases hy
 ·intro y hy
  unfold aDn at hy
  obtain ⟨i, _, rfl⟩ := List.mem_map.1 hy
  exact OM _
theorem aPX {x : T3} {k s : Int} (h : All8 x.2.2) : All8 (aH3 x k s).1.2.2 := by
 unfold aH3
 split
 ·intro y hy; cases hy
 ·intro y hy
  obtain ⟨a, _, rfl⟩ := List.mem_map.1 hy
  exact h.at_ _
theorem aPH {x : T3} (h : All8 x.2.2) : All8 (XE x).1.2.2 := by
 unfold XE
 split
 ·intro y hy
  obtain ⟨a, ha, rfl⟩ := List.mem_map.1 hy
  have := h a ha
  unfold aP
  split <;> omega
 ·intro y hy; cases hy
theorem aPN {x : T3} (h : All8 x.2.2) : All8 (RQ x).1.2.2 := by
 unfold RQ aCx
 split
 ·split
  ·split
   ·exact h
   ·intro y hy; cases hy
  ·intro y hy; cases hy
 ·intro y hy; cases hy
theorem aO1 {x : Lay} {p : Prm} {l : List T3} {s t : Int} (h8 : Ten8 l) : All8 (vR x p l s t).1.2.2 := by
 unfold vR
 split
 ·intro y hy; cases hy
 split
 ·exact aOR
 split
 ·exact aPX (h8.at_ _)
 split
 ·exact aPH (h8.at_ _)
 ·exact aPN (h8.at_ _)
abbrev Act := List T3 × List (List Int)
noncomputable def oG (ps : List Prm) (s st : Int) : List Lay -> Nat -> Act -> Act × Int × Int
  | [], _, a => (a, 0, 0)
  | x :: r, i, a =>
    if ((vR x (ps.getD i j9) a.1 s (aEd st ((i : Int) + 1) 0)).2.2 != 0) = true then (([], []), (i : Int) + 1, (vR x (ps.getD i j9) a.1 s (aEd st ((i : Int) + 1) 0)).2.2)
    else oG ps s st r (i + 1) (a.1 ++ [(vR x (ps.getD i j9) a.1 s (aEd st ((i : Int) + 1) 0)).1], a.2 ++ [(vR x (ps.getD i j9) a.1 s (aEd st ((i : Int) + 1) 0)).2.1])
noncomputable def zB (m : Mdl) (ps : List Prm) (x : T3) (s st : Int) : Act × Int × Int :=
 if ((!inP st 0 1000000 || !GM m ps) || !dY x) = true then (([], []), 0, 1)
 else if (((x.1.length : Int) != 4) || !decide (x.1.drop 1 = inL m)) = true then (([], []), 0, 2)
 else oG ps s st m.2 0 ([x], [[]])
theorem aIh {m : Mdl} {ps : List Prm} (h : GM m ps = true) : pT m = true /\ ps.length = m.2.length := by
 unfold GM at h
 simp only [Bool.and_eq_true, beq_iff_eq] at h
 exact ⟨(JD h.1.1).1, by omega⟩
theorem aNl {m : Mdl} {ps : List Prm} {s st : Int} {Q : Act × Int × Int -> Prop} (hm : pT m = true) (hl : ps.length = m.2.length) (hp : ∀ p ∈ ps, Prm8 p) {x : T3} (hx : All8 x.2.2) (h : Q (oG ps s st m.2 0 ([x], [[]]))) :
    CD ps s st m.2 (m.2.length : Int) (fun y => Q ((y.1, y.2), 0, 0)) (fun y => Q (([], []), y.1, y.2)) (0, [x], [[]]) := by
  refine ⟨?_⟩
  obtain ⟨_, ⟨k1, k2⟩, k3⟩ := k8 hm
  refine Loop.rangeI (B := fN ps s st m.2 (m.2.length : Int) (fun y => Q ((y.1, y.2), 0, 0)) (fun y => Q (([], []), y.1, y.2))) m.2.length
    (fun i z => z.1 = (i : Int) /\ z.2.1.length = i + 1 /\ z.2.2.length = i + 1 /\ Ten8 z.2.1 /\ Q (oG ps s st (m.2.drop i) i (z.2.1, z.2.2)))
    ⟨rfl, rfl, rfl, (fun t ht => by rw [List.mem_singleton.1 ht]; exact hx), by rw [List.drop_zero]; exact h⟩ ?_ ?_
  · rintro i hi ⟨z1, z2, z3⟩ ⟨rfl, e1, e2, h8, hq⟩ X hX
    unfold fN
    dsimp only at e1 e2 h8 hq ⊢
    rw [if_pos (decide_eq_true (show (i : Int) < (m.2.length : Int) by omega))]
    refine ⟨by omega, by omega, ?_⟩
    rw [aB ((i : Int) + 1) (by omega) (by omega)]
    simp only [Int.toNat_natCast]
    rw [List.drop_eq_getElem_cons hi] at hq
    have eg : m.2.getD i i5 = m.2[i] := by rw [List.getD_eq_getElem?_getD, List.getElem?_eq_getElem hi]; rfl
    rw [<- eg] at hq
    refine aKX (aB7 (by intro e; rw [e] at e1; cases e1) (by omega) h8 (Prm8.at_ hp i) ?_ ?_)
    · intro h7
      have := UU (k3 i hi) h7
      rw [aB ((i : Int) - 1) (by omega) (by omega)] at this
      have h0 : 0 <= (m.2.getD i i5).2.2.2.2.2.1 := this.1
      have h1 : (m.2.getD i i5).2.2.2.2.2.1 <= (i : Int) - 1 := this.2
      exact ⟨h0, by show (m.2.getD i i5).2.2.2.2.2.1 < _; rw [e1]; omega⟩
    · unfold oG at hq
      by_cases he : ((vR (m.2.getD i i5) (ps.getD i j9) z2 s (aEd st ((i : Int) + 1) 0)).2.2 != 0) = true
      · rw [if_pos he] at hq
        rw [if_pos he]
        exact hq
      · rw [if_neg he] at hq
        rw [if_neg he]
        refine ⟨by simp; omega, by simp; omega, hX _ ⟨rfl, by simp [e1], by simp [e2], ?_, hq⟩⟩
        intro t ht
        rcases List.mem_append.1 ht with ht | ht
        · exact h8 t ht
        · rw [List.mem_singleton.1 ht]
          exact aO1 h8
  · rintro ⟨z1, z2, z3⟩ ⟨rfl, e1, e2, h8, hq⟩ X
    unfold fN
    dsimp only at hq ⊢
    rw [if_neg (by simp)]
    rw [List.drop_length] at hq
    exact hq
theorem aNt {m : Mdl} {ps : List Prm} {x : T3} {s st : Int} {Q : Act × Int × Int -> Prop} (hl : m.2.length <= 10000000000000) (hp : ∀ p ∈ ps, Prm8 p) (hx : All8 x.2.2) (h : Q (zB m ps x s st)) : yO m ps x s st Q := by
  refine ⟨?_⟩
  unfold GB
  refine aHx ?_
  unfold zB at h
  refine XT (c := !GM m ps) (fun _ P hP => aMg hl hP) (fun v e => ?_) rfl
  refine XT (c := !dY x) (fun _ P hP => sB hP) (fun v5 e5 => ?_) rfl
  rw [<- e, <- e5] at h
  cases v5 with
  | true => rw [if_pos rfl] at h ⊢; exact h
  | false =>
    rw [if_neg (by simp)] at h
    rw [if_neg (by simp)]
    have hv : v = false /\ dY x = true := by
      have := e5.symm
      simp only [Bool.or_eq_false_iff, Bool.not_eq_false'] at this
      exact this
    have hmp : GM m ps = true := by
      have := e.symm
      rw [hv.1] at this
      simp only [Bool.or_eq_false_iff, Bool.not_eq_false'] at this
      exact this.2
    obtain ⟨q1, q2⟩ := pI hv.2
    refine XT (c := !decide (x.1.drop 1 = inL m)) (fun hb P hP => ?_) (fun v8 e8 => ?_) rfl
    · have : (x.1.length : Int) = 4 := by simpa using hb
      refine ⟨⟨(fun e0 => by rw [e0] at this; simp at this), by omega, by omega, by omega⟩, ?_⟩
      have e9 : (x.1.take ((x.1.length : Int)).toNat).drop ((1 : Int)).toNat = x.1.drop 1 := by rw [Int.toNat_natCast, List.take_length]; rfl
      rw [e9]
      exact aEU (by simp; omega) hP
    · rw [<- e8] at h
      cases v8 with
      | true => rw [if_pos rfl] at h ⊢; exact h
      | false =>
        rw [if_neg (by simp)] at h
        rw [if_neg (by simp)]
        refine E1 (by omega) (aCP (by omega) ?_)
        obtain ⟨w1, w2⟩ := aIh hmp
        exact aNl w1 w2 hp hx h
end Go.Proofs.Ytbenbhdagmnapaa

namespace Go.Proofs.Ytbenbhdagmnapaa
open Go.Mach Go.RowKit
set_option maxRecDepth 100000
set_option linter.unusedVariables false
set_option linter.unusedSimpArgs false
theorem aOj {x : Int} (h : (Lit.int IntKind.i8 x).wf = true) : -128 <= x /\ x <= 127 := by
 have := aOE h
 have e1 : IntKind.i8.min = -128 := by decide
 have e2 : IntKind.i8.max = 127 := by decide
 rw [e1, e2] at this
 exact this
theorem aMl {x n : Int} (h1 : 1 <= x) (h2 : x <= 4096) (h3 : 1 <= n) (h4 : n <= 8192) : (IntKind.i64.wrap ((8192 : Int).tdiv x) < n) ↔ 8192 < n * x := by
 have e : (8192 : Int).tdiv x = 8192 / x := Int.tdiv_eq_ediv_of_nonneg (by omega)
 have h5 : 0 <= (8192 : Int) / x := Int.ediv_nonneg (by omega) (by omega)
 have h6 : (8192 : Int) / x <= 8192 := Int.ediv_le_self _ (by omega)
 rw [e, aB _ (by omega) (by omega), Int.ediv_lt_iff_lt_mul (by omega)]
theorem aFj {acc d : Int} {r : List Int} (h1 : 1 <= acc) (h2 : acc <= 8192) : uY acc (d :: r) = if (decide (d < 1) || decide (4096 < d)) = true then 0 else if 8192 < acc * d then 0 else uY (acc * d) r := by
 by_cases hd : (decide (d < 1) || decide (4096 < d)) = true
 ·rw [if_pos hd]
  unfold uY
  rw [if_pos (by rw [hd]; rfl)]
 ·rw [if_neg hd]
  simp only [Bool.or_eq_true, decide_eq_true_eq, not_or] at hd
  have hb := JE acc d 8192 4096 (by omega) (by omega) (by omega) (by omega) (by omega)
  have hw : IntKind.i64.wrap (acc * d) = acc * d := aB _ (by omega) (by omega)
  have e1 : decide (d < 1) = false := by simp; omega
  have e2 : decide (4096 < d) = false := by simp; omega
  by_cases h3 : 8192 < acc * d
  ·rw [if_pos h3]
   unfold uY
   rw [hw, if_pos (by simp [h3])]
  ·rw [if_neg h3]
   show (if ((decide (d < 1) || decide (4096 < d)) || decide (8192 < IntKind.i64.wrap (acc * d))) = true then 0 else uY (IntKind.i64.wrap (acc * d)) r) = _
   rw [hw, if_neg (by rw [e1, e2]; simp; omega)]
theorem aFq {l : List Int} {i : Nat} (h : i < l.length) : l.drop i = l.getD i 0 :: l.drop (i + 1) := by
 rw [List.drop_eq_getElem_cons h, List.getD_eq_getElem?_getD, List.getElem?_eq_getElem h]; rfl
theorem aHa {a d : Int} (h1 : 1 <= a) (h2 : 1 <= d) : 1 <= a * d := by
 have := Int.mul_pos (show 0 < a by omega) (show 0 < d by omega)
 omega
theorem GY {l : List Int} {Q : Bool -> Prop} (h : Q (decide (0 < szF l))) : cD l Q := by
  refine ⟨?_⟩
  unfold tI
  unfold szF at h
  by_cases e : (decide ((l.length : Int) < 1) || decide (4 < (l.length : Int))) = true
  · rw [if_pos e] at h ⊢; exact h
  · rw [if_neg e] at h ⊢
    have hl : l.length <= 4 := by simp only [Bool.or_eq_true, decide_eq_true_eq, not_or] at e; omega
    obtain ⟨z, hz⟩ : ∃ z, uY 1 l = z := ⟨_, rfl⟩
    rw [hz] at h
    refine ⟨?_⟩
    refine Loop.inv (n := l.length) (fun m s => ∃ i : Nat, i + m = l.length /\ s.2 = (i : Int) /\ 1 <= s.1 /\ s.1 <= 8192 /\ uY s.1 (l.drop i) = z) ⟨0, by omega, rfl, by show 1 <= (1 : Int); omega, by show (1 : Int) <= 8192; omega, hz⟩ ?_
    rintro m ⟨acc, i'⟩ X ⟨i, hi, he, ha, hb, hzz⟩ hX
    simp only at he ha hb hzz
    subst he
    unfold oM
    by_cases hlt : i < l.length
    · rw [aFq hlt, aFj ha hb] at hzz
      rw [if_pos (decide_eq_true (show (i : Int) < (l.length : Int) by omega))]
      dsimp only
      refine ⟨by omega, ?_⟩
      rw [Int.toNat_natCast]
      generalize l.getD i 0 = d at hzz ⊢
      show (if (decide (d < 1) || decide (4096 < d)) = true then _ else _)
      by_cases hd : (decide (d < 1) || decide (4096 < d)) = true
      · rw [if_pos hd] at hzz ⊢
        show (if true = true then _ else _)
        rw [if_pos rfl]
        have : decide (0 < z) = false := by rw [<- hzz]; rfl
        rw [this] at h; exact h
      · rw [if_neg hd] at hzz ⊢
        simp only [Bool.or_eq_true, decide_eq_true_eq, not_or] at hd
        refine ⟨by omega, ?_⟩
        have ht := aMl (x := d) (n := acc) (by omega) (by omega) ha hb
        show (if (decide (IntKind.i64.wrap ((8192 : Int).tdiv d) < acc)) = true then _ else _)
        by_cases h3 : 8192 < acc * d
        · rw [if_pos h3] at hzz
          rw [if_pos (decide_eq_true (ht.2 h3))]
          have : decide (0 < z) = false := by rw [<- hzz]; rfl
          rw [this] at h; exact h
        · rw [if_neg h3] at hzz
          rw [if_neg (by simp; exact Int.not_lt.1 (fun hh => h3 (ht.1 hh)))]
          have hb2 := JE acc d 8192 4096 (by omega) (by omega) (by omega) (by omega) (by omega)
          rw [aB (acc * d) (by omega) (by omega), aB ((i : Int) + 1) (by omega) (by omega)]
          exact hX (m - 1) _ (by omega) ⟨i + 1, by omega, rfl, aHa ha (by omega), by show acc * d <= 8192; omega, hzz⟩
    · have hil : i = l.length := by omega
      subst hil
      rw [if_neg (by simp)]
      rw [List.drop_length] at hzz
      unfold uY at hzz
      have : decide (0 < z) = true := by rw [<- hzz]; exact decide_eq_true (by omega)
      rw [this] at h; exact h
theorem XI {l : List Int} {Q : Int -> Prop} (h : Q (szF l)) : dI l Q := by
  refine ⟨?_⟩
  unfold zV
  refine GY ?_
  by_cases hp : 0 < szF l
  · rw [if_neg (by simp [hp])]
    have hp2 := hp
    unfold szF at hp2 h
    split at hp2
    · omega
    · rename_i e
      rw [if_neg e] at h
      have hl : l.length <= 4 := by simp only [Bool.or_eq_true, decide_eq_true_eq, not_or] at e; omega
      obtain ⟨z, hz⟩ : ∃ z, uY 1 l = z := ⟨_, rfl⟩
      rw [hz] at h hp2
      refine ⟨?_⟩
      refine Loop.inv (n := l.length) (fun m s => ∃ i : Nat, i + m = l.length /\ s.2 = (i : Int) /\ 1 <= s.1 /\ s.1 <= 8192 /\ uY s.1 (l.drop i) = z) ⟨0, by omega, rfl, by show 1 <= (1 : Int); omega, by show (1 : Int) <= 8192; omega, hz⟩ ?_
      rintro m ⟨acc, i'⟩ X ⟨i, hi, he, ha, hb, hzz⟩ hX
      simp only at he ha hb hzz
      subst he
      unfold sY
      by_cases hlt : i < l.length
      · rw [aFq hlt, aFj ha hb] at hzz
        rw [if_pos (decide_eq_true (show (i : Int) < (l.length : Int) by omega))]
        dsimp only
        refine ⟨by omega, ?_⟩
        rw [Int.toNat_natCast]
        generalize l.getD i 0 = d at hzz ⊢
        split at hzz
        · omega
        · rename_i hd
          simp only [Bool.or_eq_true, decide_eq_true_eq, not_or] at hd
          split at hzz
          · omega
          · have hb2 := JE acc d 8192 4096 (by omega) (by omega) (by omega) (by omega) (by omega)
            rw [aB (acc * d) (by omega) (by omega), aB ((i : Int) + 1) (by omega) (by omega)]
            exact hX (m - 1) _ (by omega) ⟨i + 1, by omega, rfl, aHa ha (by omega), by show acc * d <= 8192; omega, hzz⟩
      · have hil : i = l.length := by omega
        subst hil
        rw [if_neg (by simp)]
        rw [List.drop_length] at hzz
        unfold uY at hzz
        dsimp only
        rw [hzz]
        exact h
  · rw [if_pos (by simp; omega)]
    have : szF l = 0 := by have := UJ l; omega
    rw [this] at h; exact h
theorem aOl {n k s p : Int} {Q : Int -> Prop} (hp : -1000000 <= p /\ p <= 1000000) (h : Q (bR n k s p)) : jJ n k s p Q := by
 refine ⟨?_⟩
 unfold qO
 unfold bR yB inP at h
 by_cases h1 : (1 <= n /\ n <= 16) /\ (1 <= k /\ k <= 5)
 ·rw [aB (2 * p) (by omega) (by omega), aB (n + 2 * p) (by omega) (by omega)]
  by_cases h2 : (1 <= s /\ s <= 4) /\ (0 <= p /\ p <= k - 1) /\ k <= n + 2 * p
  ·rw [if_neg (by simp; omega)] at h
   rw [if_neg (by simp; omega)]
   have d0 : 0 <= (n + 2 * p - k) / s := Int.ediv_nonneg (by omega) (by omega)
   have d1 : (n + 2 * p - k) / s <= n + 2 * p - k := Int.ediv_le_self _ (by omega)
   refine ⟨by omega, ?_⟩
   rw [aB (n + 2 * p - k) (by omega) (by omega), Int.tdiv_eq_ediv_of_nonneg (by omega), aB ((n + 2 * p - k) / s) (by omega) (by omega), aB _ (by omega) (by omega)]
   exact h
  ·rw [if_pos (by simp; omega)] at h
   rw [if_pos (by simp; omega)]
   exact h
 ·rw [if_pos (by simp; omega)] at h
  rw [if_pos (by simp; omega)]
  exact h
end Go.Proofs.Ytbenbhdagmnapaa

namespace Go.Proofs.Ytbenbhdagmnapaa
open Go.Mach Go.RowKit
set_option maxRecDepth 100000
set_option linter.unusedVariables false
set_option linter.unusedSimpArgs false
theorem aIx (a : Int) : 0 <= IntKind.u64.wrap a := by
 simp only [IntKind.wrap, IntKind.bits, IntKind.signed]; simp; omega
theorem aP6 (a m : Int) (h : 0 < m) (hm : m <= 1000000) : ∃ n : Nat, IntKind.i64.wrap ((IntKind.u64.wrap a).tmod m) = n /\ (n : Int) < m := by
 have h0 := aIx a
 rw [Int.tmod_eq_emod_of_nonneg h0]
 have h1 := Int.emod_nonneg (IntKind.u64.wrap a) (b := m) (by omega)
 have h2 := Int.emod_lt_of_pos (IntKind.u64.wrap a) h
 obtain ⟨n, hn⟩ := Int.eq_ofNat_of_zero_le h1
 exact ⟨n, by rw [aB _ (by omega) (by omega), hn], by omega⟩
theorem aKh {B : Int -> (Int -> Prop) -> Prop} (a b : List Int) (hl : a.length = b.length) {K0 K1 : Prop} (step : ∀ i : Nat, i < a.length -> ∀ X : Int -> Prop, (a.getD i 0 = b.getD i 0 -> X ((i + 1 : Nat) : Int)) -> (a.getD i 0 ≠ b.getD i 0 -> K1) -> B (i : Int) X) (last : K0 -> ∀ X, B (a.length : Int) X) (h : if a = b then K0 else K1) : Go.Mach.Loop B 0 := by
 refine Loop.range (B := B) (f := fun i : Nat => (i : Int)) a.length (fun i => ∀ j, j < i -> a.getD j 0 = b.getD j 0) (fun j hj => absurd hj (by omega)) ?_ ?_
 ·intro i hi hI X hX
  refine step i hi X (fun e => hX fun j hj => ?_) (fun e => ?_)
  ·by_cases g : j = i
   ·subst g; exact e
   ·exact hI j (by omega)
  ·rw [if_neg (fun g => e (by rw [g]))] at h
   exact h
 ·intro hI X
  refine last ?_ X
  rw [if_pos (aKO hl hI)] at h
  exact h
theorem aKI {a b : List Int} {Q : Bool -> Prop} (hl : a.length <= 1000000) (h : Q (decide (a = b))) : cS a b Q := by
 refine ⟨?_⟩
 unfold q6
 by_cases e : a.length = b.length
 ·rw [if_neg (by simp [e])]
  refine ⟨?_⟩
  refine aKh (B := dX a b (a.length : Int) _ _) a b e (K0 := Q true) (K1 := Q false) ?_ ?_ ?_
  ·intro i hi X hX hK
   unfold dX
   rw [if_pos (by simpa using hi)]
   refine ⟨by omega, by omega, ?_⟩
   simp only [Int.toNat_natCast]
   by_cases g : a.getD i 0 = b.getD i 0
   ·rw [if_neg (by simpa using g), aB _ (by omega) (by omega)]; exact hX g
   ·rw [if_pos (by simpa using g)]; exact hK g
  ·intro hK X
   unfold dX
   rw [if_neg (by simp)]
   exact hK
  ·by_cases g : a = b
   ·rw [if_pos g]; simpa [g] using h
   ·rw [if_neg g]; simpa [g] using h
 ·rw [if_pos (by simp; omega)]
  rw [decide_eq_false (fun g => e (by rw [g]))] at h
  exact h
end Go.Proofs.Ytbenbhdagmnapaa

namespace Go.Proofs.Ytbenbhdagmnapaa
open Go.Mach Go.RowKit
set_option maxRecDepth 100000
set_option linter.unusedVariables false
set_option linter.unusedSimpArgs false
theorem aKA {n k s p : Int} {Q : Int -> Prop} (h : Q (bR n k s p)) : jJ n k s p Q := by
 by_cases hp : 0 <= p /\ p < k /\ k <= 5
 ·exact aOl (by omega) h
 ·refine ⟨?_⟩
  unfold qO
  unfold bR yB inP at h
  rw [if_pos (by simp; omega)] at h
  rw [if_pos (by simp; omega)]
  exact h
end Go.Proofs.Ytbenbhdagmnapaa

namespace Go.Proofs.Ytbenbhdagmnapaa
open Go.Mach Go.RowKit
set_option maxRecDepth 100000
set_option linter.unusedVariables false
set_option linter.unusedSimpArgs false
theorem aNh {a b : List Int × Int × List Int} {Q : Bool -> Prop} (h1 : a.1.length <= 1000000) (h2 : a.2.2.length <= 1000000) (h : Q (decide (a = b))) : kA a b Q := by
  refine ⟨?_⟩
  unfold wO
  obtain ⟨a1, a2, a3⟩ := a
  obtain ⟨b1, b2, b3⟩ := b
  dsimp only at h1 h2 ⊢
  refine aKI h1 ?_
  by_cases e1 : a1 = b1 /\ a2 = b2 /\ a3.length = b3.length
  rotate_left
  · have hf : decide ((a1, a2, a3) = (b1, b2, b3)) = false := by
      simp only [decide_eq_false_iff_not, Prod.mk.injEq]
      rintro ⟨rfl, rfl, rfl⟩; exact e1 ⟨rfl, rfl, rfl⟩
    rw [hf] at h
    rw [if_pos ?_]
    · exact h
    · simp only [Bool.or_eq_true, Bool.not_eq_true', decide_eq_false_iff_not, bne_iff_ne, ne_eq]
      by_cases h3 : a1 = b1
      · by_cases h4 : a2 = b2
        · exact .inr (fun hh => e1 ⟨h3, h4, by omega⟩)
        · exact .inl (.inr h4)
      · exact .inl (.inl h3)
  obtain ⟨rfl, rfl, e⟩ := e1
  rw [if_neg (by simp [e])]
  refine ⟨?_⟩
  refine Loop.range (B := gA (a3.length : Int) a3 b3 (fun _ => Q true) (fun _ => Q false)) a3.length (fun i => (i : Int)) (fun i => ∀ j, j < i -> a3.getD j 0 = b3.getD j 0) (fun j hj => absurd hj (by omega)) ?_ ?_
  · intro i hi hI X hX
    unfold gA
    rw [if_pos (decide_eq_true (show (i : Int) < (a3.length : Int) by omega))]
    refine ⟨by omega, by omega, ?_⟩
    simp only [Int.toNat_natCast]
    by_cases hd : a3.getD i 0 = b3.getD i 0
    · rw [if_neg (by simpa using hd), aB _ (by omega) (by omega)]
      refine hX fun j hj => ?_
      by_cases hji : j = i
      · subst hji; exact hd
      · exact hI j (by omega)
    · rw [if_pos (by simpa using hd)]
      have : decide ((a1, a2, a3) = (a1, a2, b3)) = false := by
        simp only [decide_eq_false_iff_not, Prod.mk.injEq]
        rintro ⟨_, _, hab⟩; exact hd (by rw [hab])
      rw [this] at h; exact h
  · intro hI X
    unfold gA
    rw [if_neg (by simp)]
    have : a3 = b3 := by
      refine List.ext_getElem e fun i h1 h2 => ?_
      have := hI i h1
      rw [List.getD_eq_getElem?_getD, List.getD_eq_getElem?_getD, List.getElem?_eq_getElem h1, List.getElem?_eq_getElem h2] at this
      exact this
    subst this
    rw [decide_eq_true rfl] at h; exact h
end Go.Proofs.Ytbenbhdagmnapaa

namespace Go.Proofs.Ytbenbhdagmnapaa
open Go.Mach
set_option maxRecDepth 100000
set_option linter.unusedVariables false
set_option linter.unusedSimpArgs false
theorem MH {a lo hi : Int} {Q : Bool -> Prop} (h : Q (inP a lo hi)) : aT a lo hi Q := ⟨h⟩
theorem aLV {a : Int × Int × Int} {Q : Bool -> Prop} (h : Q (pH a)) : oN a Q := by
 refine ⟨MH ?_⟩
 unfold pH at h
 refine EY (c := inP a.2.1 1 16) (fun _ P hP => MH hP) (fun v e => ?_) rfl
 refine EY (c := inP a.2.2 1 16) (fun _ P hP => MH hP) (fun v2 e2 => ?_) rfl
 rw [e2, e]
 exact h
theorem aDF {K : Unit -> Prop} (h : K ()) : bS K := ⟨h⟩
theorem aN0 {x : Lay} {n : Int} {Q : Bool -> Prop} (h : Q (p6 x n)) : kT x n Q := by
 obtain ⟨kd, ou, k, st, pd, fr, fz⟩ := x
 refine ⟨?_⟩
 unfold pR
 dsimp only
 unfold p6 at h
 dsimp only at h
 have fin : ∀ {b : Bool} {k' st' fr' : Int}, (b && ((kd == kd) && ((ou == 0) && ((k == k') && ((st == st') && ((pd == 0) && ((fr == fr') && ((fz == false) && (true)))))))))
   = (b && ((ou == 0) && ((k == k') && ((st == st') && ((pd == 0) && ((fr == fr') && (fz == false))))))) := by
  intro b k' st' fr'
  simp
 by_cases h1 : kd = 1
 ·rw [if_pos h1] at h
  rw [if_pos (by simpa using h1)]
  refine MH (aDF (cast (congrArg Q ?_) h))
  simp
 rw [if_neg h1] at h
 rw [if_neg (by simpa using h1)]
 by_cases h2 : kd = 2
 ·rw [if_pos h2] at h
  rw [if_pos (by simpa using h2)]
  refine MH ?_
  refine EY (c := inP k 1 5) (fun _ P hP => MH hP) (fun v e => ?_) rfl
  refine EY (c := inP st 1 4) (fun _ P hP => MH hP) (fun v2 e2 => ?_) rfl
  refine EY (c := inP pd 0 (IntKind.i64.wrap (k - 1))) (fun _ P hP => MH hP) (fun v3 e3 => ?_) rfl
  refine aDF (cast (congrArg Q ?_) h)
  rw [e3, e2, e]
  unfold aJ2
  simp [Bool.and_assoc]
 rw [if_neg h2] at h
 rw [if_neg (by simpa using h2)]
 have win : ∀ {K0 : Bool × Int × Int × Int -> Prop} {K1 : Unit -> Prop} {x1 : Bool}, K0 (aJ2 (kd, ou, k, st, pd, fr, fz), k, st, 0) -> eO n x1 kd true k st fr 0 0 0 K0 K1 := by
  intro K0 K1 x1 hK
  refine ⟨?_⟩
  unfold g9
  rw [if_pos rfl]
  refine MH ?_
  refine EY (c := inP st 1 4) (fun _ P hP => MH hP) (fun v e => ?_) rfl
  rw [e]
  exact hK
 by_cases h3 : kd = 3
 ·rw [if_pos (.inl h3)] at h
  rw [if_pos (by simpa using h3)]
  have e3 : (kd == 3) = true := by simpa using h3
  rw [e3]
  refine win (aDF (cast (congrArg Q ?_) h))
  rw [fin]
  simp
 rw [if_neg (by simpa using h3)]
 by_cases h4 : kd = 4
 ·rw [if_pos (.inr h4)] at h
  have e4 : (kd == 4) = true := by simpa using h4
  rw [e4]
  refine win (aDF (cast (congrArg Q ?_) h))
  rw [fin]
  simp
 rw [if_neg (by omega)] at h
 have e4 : (kd == 4) = false := by simpa using h4
 rw [e4]
 refine ⟨?_⟩
 unfold g9
 rw [if_neg (by simp)]
 by_cases h5 : kd = 5
 ·rw [if_pos (.inl h5)] at h
  have e5 : (kd == 5) = true := by simpa using h5
  rw [if_pos e5, e5]
  refine ⟨?_⟩
  unfold dF
  rw [if_pos rfl]
  refine aDF (cast (congrArg Q ?_) h)
  rw [fin]
  simp
 rw [if_neg (by simpa using h5)]
 by_cases h6 : kd = 6
 ·rw [if_pos (.inr h6)] at h
  have e6 : (kd == 6) = true := by simpa using h6
  rw [e6]
  refine ⟨?_⟩
  unfold dF
  rw [if_pos rfl]
  refine aDF (cast (congrArg Q ?_) h)
  rw [fin]
  simp
 rw [if_neg (by omega)] at h
 have e6 : (kd == 6) = false := by simpa using h6
 rw [e6]
 refine ⟨?_⟩
 unfold dF
 rw [if_neg (by simp)]
 by_cases h7 : kd = 7
 ·rw [if_pos h7] at h
  rw [if_pos (by simpa using h7)]
  refine MH (aDF (cast (congrArg Q ?_) h))
  rw [fin]
  simp
 ·rw [if_neg h7] at h
  rw [if_neg (by simpa using h7)]
  exact h
theorem aN9 {m : Mdl} {Q : Bool -> Prop} (hl : m.2.length <= 10000000000000) (h : Q (pT m)) : kQ m Q := by
  refine ⟨aLV ?_⟩
  unfold pT at h
  refine XT (c := !inP (m.2.length : Int) 1 12) (fun _ P hP => MH hP) (fun v e => ?_) rfl
  cases v with
  | true =>
    rw [if_pos rfl]
    have e : (!pH m.1 || !inP (m.2.length : Int) 1 12) = true := e.symm
    have : (pH m.1 && inP (m.2.length : Int) 1 12) = false := by
      revert e
      cases pH m.1 <;> cases inP (m.2.length : Int) 1 12 <;> simp
    rw [this] at h
    exact h
  | false =>
    rw [if_neg (by simp)]
    have e : (!pH m.1 || !inP (m.2.length : Int) 1 12) = false := e.symm
    have : (pH m.1 && inP (m.2.length : Int) 1 12) = true := by
      revert e
      cases pH m.1 <;> cases inP (m.2.length : Int) 1 12 <;> simp
    rw [this, Bool.true_and] at h
    refine ⟨?_⟩
    refine Loop.range (B := dE m.2 (m.2.length : Int) (fun _ => Q true) (fun _ => Q false)) m.2.length (fun i => (i : Int)) (fun i => ∀ j, j < i -> p6 (m.2.getD j i5) j = true) (fun j hj => absurd hj (by omega)) ?_ ?_
    · intro i hi hI X hX
      unfold dE
      rw [if_pos (decide_eq_true (show (i : Int) < (m.2.length : Int) by omega))]
      refine ⟨by omega, aN0 ?_⟩
      simp only [Int.toNat_natCast]
      show if (!p6 (m.2.getD i i5) i) = true then _ else _
      cases hb : p6 (m.2.getD i i5) i with
      | true =>
        rw [if_neg (by simp), aB _ (by omega) (by omega)]
        refine hX fun j hj => ?_
        by_cases hji : j = i
        · subst hji; exact hb
        · exact hI j (by omega)
      | false =>
        rw [if_pos (by rfl)]
        have : PX m.2 = false := by
          unfold PX
          rw [List.all_eq_false]
          exact ⟨i, List.mem_range.2 hi, by rw [hb]; simp⟩
        rw [this] at h
        exact h
    · intro hI X
      unfold dE
      rw [if_neg (by simp)]
      have : PX m.2 = true := by
        unfold PX
        rw [List.all_eq_true]
        intro j hj
        exact hI j (List.mem_range.1 hj)
      rw [this] at h
      exact h
def DimOk (d : List Int) : Prop := (∃ n, d = [n] /\ 1 <= n /\ n <= 4096) \/ ∃ c p q, d = [c, p, q] /\ (1 <= c /\ c <= 8) /\ (1 <= p /\ p <= 20) /\ (1 <= q /\ q <= 20)
theorem aOs {c p q : Int} (h1 : 1 <= c /\ c <= 8) (h2 : 1 <= p /\ p <= 20) (h3 : 1 <= q /\ q <= 20) : 1 <= c * p * q /\ c * p * q <= 3200 /\ 1 <= c * p /\ c * p <= 160 := by
 have a1 : c * p <= 8 * 20 := Int.mul_le_mul h1.2 h2.2 (by omega) (by omega)
 have a2 : 1 * 1 <= c * p := Int.mul_le_mul h1.1 h2.1 (by omega) (by omega)
 have a3 : c * p * q <= 160 * 20 := Int.mul_le_mul (by omega) h3.2 (by omega) (by omega)
 have a4 : 1 * 1 <= c * p * q := Int.mul_le_mul (by omega) h3.1 (by omega) (by omega)
 omega
theorem DimOk.sz {d : List Int} (h : DimOk d) : 0 < szF d /\ AB d = szF d /\ szF d <= 4096 /\ d ≠ [] /\ d.length <= 3 /\ 1 <= d.getD 0 0 /\ d.getD 0 0 <= 4096 := by
 rcases h with ⟨n, rfl, h1, h2⟩ | ⟨c, p, q, rfl, h1, h2, h3⟩
 ·rw [aNN h1 h2]
  refine ⟨by omega, ?_, by omega, by simp, by simp, by simpa using h1, by simpa using h2⟩
  show IntKind.i64.wrap (1 * n) = n
  rw [Int.one_mul, aB _ (by omega) (by omega)]
 ·obtain ⟨a1, a2, a3, a4⟩ := aOs h1 h2 h3
  have e : szF [c, p, q] = c * p * q := by
   rw [aIr (by simp) (by intro d hd; simp at hd; omega) (by show c * (p * (q * 1)) <= 8192; rw [Int.mul_one, <- Int.mul_assoc]; omega)]
   show c * (p * (q * 1)) = _
   rw [Int.mul_one, Int.mul_assoc]
  rw [e]
  refine ⟨by omega, ?_, by omega, by simp, by simp, by simpa using h1.1, by show c <= 4096; omega⟩
  show IntKind.i64.wrap (IntKind.i64.wrap (IntKind.i64.wrap (1 * c) * p) * q) = c * p * q
  rw [Int.one_mul, aB c (by omega) (by omega), aB (c * p) (by omega) (by omega), aB _ (by omega) (by omega)]
theorem aNw {n k s p : Int} (h : bR n k s p ≠ 0) : 1 <= bR n k s p /\ bR n k s p <= 20 := by
 have := DP n k s p
 obtain ⟨a, b, c, d, e, f⟩ := JS (n := n) (k := k) (s := s) (p := p) (by omega)
 have h1 : (n + 2 * p - k) / s <= n + 2 * p - k := Int.ediv_le_self _ (by omega)
 omega
theorem aF5 {d : List Int} {c : Int} {x : Lay} (hc : 1 <= c /\ c <= 8) (h : kC d c x ≠ []) : DimOk (kC d c x) := by
 unfold kC at h ⊢
 split at h
 ·rename_i h3
  rw [if_pos h3]
  split at h
  ·exact absurd rfl h
  ·rename_i h4
   rw [if_neg h4]
   exact .inr ⟨_, _, _, rfl, hc, aNw (fun e => h4 (.inl e)), aNw (fun e => h4 (.inr e))⟩
 ·exact absurd rfl h
theorem aD3 {x : Lay} {n : Int} (h : p6 x n = true) : (x.1 = 1 /\ 1 <= x.2.1 /\ x.2.1 <= 4096) \/ (x.1 = 2 /\ 1 <= x.2.1 /\ x.2.1 <= 8) \/ ((x.1 = 3 \/ x.1 = 4) /\ x.2.2.2.2.1 = 0) \/ x.1 = 5 \/ x.1 = 6 \/ x.1 = 7 := by
 unfold p6 at h
 split at h
 ·simp only [Bool.and_eq_true, inP, decide_eq_true_eq] at h
  exact .inl ⟨by assumption, h.1⟩
 split at h
 ·simp only [Bool.and_eq_true, inP, decide_eq_true_eq] at h
  exact .inr (.inl ⟨by assumption, h.1.1.1⟩)
 split at h
 ·simp only [Bool.and_eq_true, beq_iff_eq] at h
  exact .inr (.inr (.inl ⟨by assumption, h.2.2.1⟩))
 split at h
 ·rename_i e; rcases e with e | e
  ·exact .inr (.inr (.inr (.inl e)))
  ·exact .inr (.inr (.inr (.inr (.inl e))))
 split at h
 ·rename_i e; exact .inr (.inr (.inr (.inr (.inr e))))
 ·cases h
theorem YG {x : Lay} {l : List (List Int)} {d : List Int} {n : Int} (hm : p6 x n = true) (hd : DimOk d) (h : iU x l d ≠ []) : DimOk (iU x l d) := by
 unfold iU at h ⊢
 rcases aD3 hm with ⟨e, h1, h2⟩ | ⟨e, h1, h2⟩ | ⟨e, h1⟩ | e | e | e
 ·rw [if_pos e] at h ⊢
  split at h
  ·rename_i h3; rw [if_pos h3]; exact .inl ⟨_, rfl, h1, h2⟩
  ·exact absurd rfl h
 ·rw [if_neg (by omega), if_pos e] at h ⊢
  exact aF5 ⟨h1, h2⟩ h
 ·rw [if_neg (by omega), if_neg (by omega), if_pos e] at h ⊢
  refine aF5 ?_ h
  unfold kC at h
  split at h
  ·rename_i h3
   rcases hd with ⟨n, rfl, _⟩ | ⟨c, p, q, rfl, hc, _⟩
   ·simp at h3
   ·exact hc
  ·exact absurd rfl h
 ·rw [if_neg (by omega), if_neg (by omega), if_neg (by omega), if_pos e]
  exact hd
 ·rw [if_neg (by omega), if_neg (by omega), if_neg (by omega), if_neg (by omega), if_pos e]
  obtain ⟨q1, q2, q3, _⟩ := hd.sz
  exact .inl ⟨_, rfl, by omega, by omega⟩
 ·rw [if_neg (by omega), if_neg (by omega), if_neg (by omega), if_neg (by omega), if_neg (by omega), if_pos e] at h ⊢
  split at h
  ·rename_i h3; rw [if_pos h3]; exact hd
  ·exact absurd rfl h
theorem aEH {a b k s p : Int} {Q : Int × Int -> Prop} (h : Q (bR a k s p, bR b k s p)) : gS a b k s p Q := ⟨aKA (aKA h)⟩
theorem aNS {l : List Int} {K0 : Int -> Prop} (hl : l.length <= 1000000) (h : K0 (AB l)) : dR l (l.length : Int) K0 (1, 0) := by
 refine ⟨?_⟩
 refine Loop.range (B := fD l (l.length : Int) K0) l.length (fun i => (AB (l.take i), (i : Int))) (fun _ => True) trivial ?_ ?_
 ·intro i hi _ X hX
  unfold fD
  dsimp only
  rw [if_pos (decide_eq_true (show (i : Int) < (l.length : Int) by omega))]
  refine ⟨by omega, ?_⟩
  rw [Int.toNat_natCast, aB ((i : Int) + 1) (by omega) (by omega)]
  have hX := hX trivial
  have e : AB (l.take (i + 1)) = IntKind.i64.wrap (AB (l.take i) * l.getD i 0) := by
   rw [WA hi 0]; unfold AB; rw [List.foldl_append]; rfl
  rw [e] at hX
  exact hX
 ·intro _ X
  unfold fD
  rw [if_neg (by simp)]
  dsimp only
  rw [List.take_length]
  exact h
theorem aMd {x : Lay} {d : List Int} {l : List (List Int)} {n : Int} {Q : List Int × Bool -> Prop} (hm : p6 x n = true) (hd : DimOk d) (hx : x.1 = 7 -> 0 <= x.2.2.2.2.2.1 /\ x.2.2.2.2.2.1 < (l.length : Int)) (h1 : iU x l d ≠ [] -> Q (iU x l d, true)) (h2 : iU x l d = [] -> ∀ r, Q (r, false)) : pC x d l Q := by
  obtain ⟨z1, z2, z3, z4, z5, z6, z7⟩ := hd.sz
  refine ⟨?_⟩
  unfold uF
  have pl : ∀ c : Int, (kC d c x ≠ [] -> Q (kC d c x, true)) -> (kC d c x = [] -> ∀ r, Q (r, false)) -> (((d.length : Int) != 3) = true -> Q ([], false)) /\ (((d.length : Int) != 3) = false -> d.length = 3 /\ bH (bR (d.getD 1 0) x.2.2.1 x.2.2.2.1 x.2.2.2.2.1) (bR (d.getD 2 0) x.2.2.1 x.2.2.2.1 x.2.2.2.2.1) fun y => Q ([c, bR (d.getD 1 0) x.2.2.1 x.2.2.2.1 x.2.2.2.2.1, bR (d.getD 2 0) x.2.2.1 x.2.2.2.1 x.2.2.2.2.1], y)) := by
    intro c k1 k2
    refine ⟨fun h => ?_, fun h => ?_⟩
    · refine k2 ?_ _
      unfold kC
      rw [if_neg (by intro e; rw [e] at h; simp at h)]
    · have h3 : d.length = 3 := by have : (d.length : Int) = 3 := by simpa using h
                                   omega
      refine ⟨h3, ⟨?_⟩⟩
      unfold pW
      unfold kC at k1 k2
      rw [if_pos h3] at k1 k2
      obtain ⟨a1, _⟩ := DP (d.getD 1 0) x.2.2.1 x.2.2.2.1 x.2.2.2.2.1
      obtain ⟨b1, _⟩ := DP (d.getD 2 0) x.2.2.1 x.2.2.2.1 x.2.2.2.2.1
      by_cases h4 : bR (d.getD 1 0) x.2.2.1 x.2.2.2.1 x.2.2.2.2.1 = 0 \/ bR (d.getD 2 0) x.2.2.1 x.2.2.2.1 x.2.2.2.2.1 = 0
      · rw [if_pos h4] at k2
        have e : (decide (0 < bR (d.getD 1 0) x.2.2.1 x.2.2.2.1 x.2.2.2.2.1) && decide (0 < bR (d.getD 2 0) x.2.2.1 x.2.2.2.1 x.2.2.2.2.1)) = false := by
          simp only [Bool.and_eq_false_iff, decide_eq_false_iff_not]; omega
        rw [e]
        exact k2 rfl _
      · rw [if_neg h4] at k1
        have e : (decide (0 < bR (d.getD 1 0) x.2.2.1 x.2.2.2.1 x.2.2.2.2.1) && decide (0 < bR (d.getD 2 0) x.2.2.1 x.2.2.2.1 x.2.2.2.2.1)) = true := by
          simp only [Bool.and_eq_true, decide_eq_true_eq]; omega
        rw [e]
        exact k1 (by simp)
  have dd : 0 < d.length := List.length_pos_iff.2 z4
  unfold iU at h1 h2
  rcases aD3 hm with ⟨e, _⟩ | ⟨e, _⟩ | ⟨e, _⟩ | e | e | e
  · rw [if_pos e] at h1 h2
    rw [if_pos (by simpa using e)]
    by_cases h3 : d.length = 1
    · rw [if_pos h3] at h1
      have : ((d.length : Int) == 1) = true := by simp [h3]
      rw [this]; exact h1 (by simp)
    · rw [if_neg h3] at h2
      have : ((d.length : Int) == 1) = false := by simp; omega
      rw [this]; exact h2 rfl _
  · rw [if_neg (by omega), if_pos e] at h1 h2
    obtain ⟨p1, p2⟩ := pl x.2.1 h1 h2
    have e2 : (x.1 == 2) = true := by simpa using e
    rw [if_neg (by simp [e]), if_pos e2, if_pos e2]
    split
    · exact p1 (by assumption)
    · rename_i hn
      obtain ⟨g1, g2⟩ := p2 (by simpa using hn)
      exact ⟨by omega, by omega, aEH ⟨by omega, g2⟩⟩
  · rw [if_neg (by omega), if_neg (by omega), if_pos e] at h1 h2
    obtain ⟨p1, p2⟩ := pl (d.getD 0 0) h1 h2
    rw [if_neg (by simp; omega), if_neg (by simp; omega)]
    rcases e with e | e
    · have e2 : (x.1 == 3) = true := by simpa using e
      rw [if_pos e2, if_pos e2]
      split
      · exact p1 (by assumption)
      · rename_i hn
        obtain ⟨g1, g2⟩ := p2 (by simpa using hn)
        refine ⟨by omega, by omega, aEH ⟨by omega, ?_⟩⟩
        rw [if_neg (by simp; omega)]
        exact g2
    · have e2 : (x.1 == 4) = true := by simpa using e
      rw [if_neg (by simp; omega), if_pos e2]
      split
      · exact p1 (by assumption)
      · rename_i hn
        obtain ⟨g1, g2⟩ := p2 (by simpa using hn)
        refine ⟨by omega, by omega, aEH ⟨by omega, ?_⟩⟩
        rw [if_neg (by simp; omega)]
        exact g2
  · rw [if_neg (by omega), if_neg (by omega), if_neg (by omega), if_pos e] at h1 h2
    rw [if_neg (by simp; omega), if_neg (by simp; omega), if_neg (by simp; omega), if_neg (by simp; omega), if_neg (by simp; omega), if_neg (by simp; omega)]
    exact ⟨by omega, h1 z4⟩
  · rw [if_neg (by omega), if_neg (by omega), if_neg (by omega), if_neg (by omega), if_pos e] at h1 h2
    rw [if_neg (by simp; omega), if_neg (by simp; omega), if_neg (by simp; omega), if_neg (by simp; omega), if_pos (by simpa using e)]
    exact aNS (by omega) (h1 (by simp))
  · rw [if_neg (by omega), if_neg (by omega), if_neg (by omega), if_neg (by omega), if_neg (by omega), if_pos e] at h1 h2
    rw [if_neg (by simp; omega), if_neg (by simp; omega), if_neg (by simp; omega), if_neg (by simp; omega), if_neg (by simp; omega), if_pos (by simpa using e)]
    refine ⟨by omega, hx e, aKI (by omega) ?_⟩
    by_cases h3 : l.getD x.2.2.2.2.2.1.toNat [] = d
    · rw [if_pos h3] at h1
      rw [decide_eq_true (show d = l.getD x.2.2.2.2.2.1.toNat [] from h3.symm)]
      exact h1 z4
    · rw [if_neg h3] at h2
      rw [decide_eq_false (show ¬ d = l.getD x.2.2.2.2.2.1.toNat [] from fun e => h3 e.symm)]
      exact h2 rfl _
end Go.Proofs.Ytbenbhdagmnapaa

namespace Go.Proofs.Ytbenbhdagmnapaa
open Go.Mach
set_option maxRecDepth 100000
set_option linter.unusedVariables false
set_option linter.unusedSimpArgs false
theorem aGO {m : Mdl} (h : pT m = true) : (∃ c p q, inL m = [c, p, q] /\ (1 <= c /\ c <= 8) /\ (1 <= p /\ p <= 16) /\ (1 <= q /\ q <= 16)) /\ DimOk (inL m) := by
 obtain ⟨⟨h1, h2, h3⟩, _⟩ := k8 h
 exact ⟨⟨_, _, _, rfl, h1, h2, h3⟩, .inr ⟨_, _, _, rfl, h1, by omega, by omega⟩⟩
theorem JN {m : Mdl} (h : pT m = true) : aO m = bG m.2 0 [inL m] := by
 obtain ⟨_, h2⟩ := aGO h
 obtain ⟨q1, q2, q3, _⟩ := h2.sz
 unfold aO
 rw [if_pos h, if_neg (by omega)]
theorem RW {x : Lay} {r : List Lay} {i : Int} {l : List (List Int)} {n : Int} (hm : p6 x n = true) (hd : DimOk (l.getD (l.length - 1) [])) :
  bG (x :: r) i l = if iU x l (l.getD (l.length - 1) []) = [] then ([], i + 1, 2) else bG r (i + 1) (l ++ [iU x l (l.getD (l.length - 1) [])]) := by
 rw [bG]
 split
 ·rfl
 ·rename_i h
  have hg := YG hm hd h
  obtain ⟨q1, q2, q3, _⟩ := hg.sz
  rw [if_neg (by omega)]
theorem aLg {m : Mdl} {i : Nat} (h : pT m = true) (hi : i < m.2.length) : p6 (m.2.getD i i5) i = true /\ ((m.2.getD i i5).1 = 7 -> 0 <= (m.2.getD i i5).2.2.2.2.2.1 /\ (m.2.getD i i5).2.2.2.2.2.1 <= (i : Int) - 1) := by
 obtain ⟨_, ⟨k1, k2⟩, k3⟩ := k8 h
 refine ⟨k3 i hi, fun h7 => ?_⟩
 have := UU (k3 i hi) h7
 rw [aB ((i : Int) - 1) (by omega) (by omega)] at this
 exact this
theorem Y6 {m : Mdl} {Q : List (List Int) × Int × Int -> Prop} (hl : m.2.length <= 10000000000000) (h : Q (aO m)) : fE m Q := by
  refine ⟨aN9 hl ?_⟩
  cases hm : pT ((m.1.1, m.1.2.1, m.1.2.2), m.2) with
  | false =>
    unfold aO at h
    have hm : pT m = false := hm
    rw [hm, if_neg (by simp)] at h
    exact h
  | true =>
    have hm : pT m = true := hm
    rw [if_neg (by simp)]
    rw [JN hm] at h
    obtain ⟨_, ⟨k1, k2⟩, k3⟩ := k8 hm
    refine ⟨?_⟩
    refine Loop.rangeI (B := eC m.2 (m.2.length : Int) (fun y => Q (y, 0, 0)) (fun y => Q ([], y.1, y.2))) m.2.length
      (fun i z => z.1 = (i : Int) /\ z.2.length = i + 1 /\ (∀ d ∈ z.2, DimOk d) /\ Q (bG (m.2.drop i) i z.2))
      ⟨rfl, rfl, (fun d hd => by rw [List.mem_singleton.1 hd]; exact (aGO hm).2), by rw [List.drop_zero]; exact h⟩ ?_ ?_
    · rintro i hi ⟨z1, z2⟩ ⟨rfl, e1, hd, hq⟩ X hX
      unfold eC
      dsimp only at e1 hd hq ⊢
      rw [if_pos (decide_eq_true (show (i : Int) < (m.2.length : Int) by omega))]
      refine ⟨by omega, by omega, ?_⟩
      rw [aB ((i : Int) + 1) (by omega) (by omega)]
      simp only [Int.toNat_natCast]
      rw [List.drop_eq_getElem_cons hi] at hq
      have eg : m.2.getD i i5 = m.2[i] := by rw [List.getD_eq_getElem?_getD, List.getElem?_eq_getElem hi]; rfl
      rw [<- eg] at hq
      have hdi : DimOk (z2.getD i []) := by
        rw [List.getD_eq_getElem?_getD, List.getElem?_eq_getElem (by omega)]
        exact hd _ (List.getElem_mem _)
      obtain ⟨g1, g2⟩ := aLg hm hi
      have el : z2.length - 1 = i := by omega
      rw [RW g1 (by rw [el]; exact hdi), el] at hq
      refine aMd (n := (i : Int)) g1 hdi (fun h7 => ?_) (fun hne => ?_) (fun he r => ?_)
      · have := g2 h7
        exact ⟨this.1, by show (m.2.getD i i5).2.2.2.2.2.1 < (z2.length : Int); omega⟩
      · rw [if_neg (by simp)]
        have hg := YG g1 hdi hne
        obtain ⟨q1, q2, q3, _⟩ := hg.sz
        refine GY ?_
        have q1' : 0 < szF (iU (m.2.getD i i5) z2 (z2.getD i [])) := q1
        rw [decide_eq_true q1', if_neg (by simp)]
        have hne' : ¬ iU (m.2.getD i i5) z2 (z2.getD i []) = [] := hne
        rw [if_neg hne'] at hq
        refine ⟨by simp; omega, hX _ ⟨rfl, by simp [e1], ?_, hq⟩⟩
        intro d hdm
        rcases List.mem_append.1 hdm with hdm | hdm
        · exact hd d hdm
        · rw [List.mem_singleton.1 hdm]; exact hg
      · rw [if_pos (by rfl)]
        have he' : iU (m.2.getD i i5) z2 (z2.getD i []) = [] := he
        rw [if_pos he'] at hq
        exact hq
    · rintro ⟨z1, z2⟩ ⟨rfl, e1, hd, hq⟩ X
      unfold eC
      dsimp only at hq ⊢
      rw [if_neg (by simp)]
      rw [List.drop_length] at hq
      exact hq
theorem Q7 : ∀ (r : List Lay) (i : Nat) (l : List (List Int)), (∀ j, j < r.length -> p6 (r.getD j i5) ((i + j : Nat) : Int) = true) -> l ≠ [] -> (∀ d ∈ l, DimOk d) -> (bG r i l).2.2 = 0 -> ∀ d ∈ (bG r i l).1, DimOk d
  | [], _, l, _, _, hd, _ => hd
  | x :: r, i, l, hm, hl, hd, h => by
    have hlast : DimOk (l.getD (l.length - 1) []) := by
      have := List.length_pos_iff.2 hl
      rw [List.getD_eq_getElem?_getD, List.getElem?_eq_getElem (by omega)]
      exact hd _ (List.getElem_mem _)
    have hx : p6 x (i : Int) = true := by
      have := hm 0 (by simp)
      rw [Nat.add_zero] at this
      exact this
    rw [RW (n := (i : Int)) hx hlast] at h ⊢
    split at h
    · exact absurd (show (2 : Int) = 0 from h) (by decide)
    · rename_i hne
      rw [if_neg hne]
      have e : ((i : Int) + 1) = ((i + 1 : Nat) : Int) := by omega
      rw [e] at h ⊢
      refine Q7 r (i + 1) _ (fun j hj => ?_) (by simp) (fun d hdm => ?_) h
      · have := hm (j + 1) (by simp; omega)
        rw [show i + 1 + j = i + (j + 1) by omega]
        exact this
      · rcases List.mem_append.1 hdm with hdm | hdm
        · exact hd d hdm
        · rw [List.mem_singleton.1 hdm]; exact YG hx hlast hne
theorem t6 {m : Mdl} (h : (aO m).2.2 = 0) : pT m = true /\ (aO m).1.length = m.2.length + 1 /\ ∀ d ∈ (aO m).1, DimOk d := by
 obtain ⟨h1, h2⟩ := JD h
 refine ⟨h1, h2.len, ?_⟩
 have h0 := h
 rw [JN h1] at h ⊢
 obtain ⟨_, _, k3⟩ := k8 h1
 exact Q7 m.2 0 [inL m] (fun j hj => by rw [Nat.zero_add]; exact k3 j hj) (by simp) (fun d hd => by rw [List.mem_singleton.1 hd]; exact (aGO h1).2) h
theorem aF2 {m : Mdl} (h : (aO m).2.2 = 0) {i : Nat} (hi : i <= m.2.length) : DimOk ((aO m).1.getD i []) := by
 obtain ⟨_, h2, h3⟩ := t6 h
 rw [List.getD_eq_getElem?_getD, List.getElem?_eq_getElem (by omega)]
 exact h3 _ (List.getElem_mem _)
theorem aIF {x : Lay} {d : List Int} {Q : List Int × Int -> Prop} (hd : d ≠ []) (h : Q (ofF x d)) : kB x d Q := by
 have := List.length_pos_iff.2 hd
 refine ⟨?_⟩
 unfold wL
 unfold ofF at h
 by_cases h1 : x.1 = 1
 ·rw [if_pos h1] at h
  rw [if_pos (by simpa using h1)]
  exact ⟨by omega, h⟩
 ·rw [if_neg h1] at h
  rw [if_neg (by simpa using h1)]
  by_cases h2 : x.1 = 2
  ·rw [if_pos h2] at h
   rw [if_pos (by simpa using h2)]
   exact ⟨by omega, h⟩
  ·rw [if_neg h2] at h
   rw [if_neg (by simpa using h2)]
   exact h
theorem aNP {m : Mdl} {i : Int} {Q : List Int × Int -> Prop} (hl : m.2.length <= 10000000000000) (h : Q (BG m i)) : qG m i Q := by
 refine ⟨Y6 hl ?_⟩
 unfold BG at h
 have e0 : aO ((m.1.1, m.1.2.1, m.1.2.2), m.2) = aO m := rfl
 rw [e0]
 split
 ·rename_i hb
  rw [if_pos hb] at h
  exact h
 ·rename_i hb
  rw [if_neg hb] at h
  have hb := Bool.eq_false_iff.2 hb
  simp only [Bool.or_eq_false_iff, decide_eq_false_iff_not, aKJ] at hb
  obtain ⟨⟨b1, b2⟩, b3⟩ := hb
  obtain ⟨hm, q2, q3⟩ := t6 b1
  obtain ⟨_, ⟨k1, k2⟩, _⟩ := k8 hm
  rw [aB (i - 1) (by omega) (by omega)]
  have hdi := aF2 b1 (i := (i - 1).toNat) (by omega)
  refine ⟨by omega, by omega, aIF hdi.sz.2.2.2.1 (GY ?_)⟩
  have e1 : (ofF (m.2.getD (i - 1).toNat i5) ((aO m).1.getD (i - 1).toNat [])) = ofF ((m.2.getD ((i - 1).toNat) (0, (0, (0, (0, (0, (0, false))))))).1, (((m.2.getD ((i - 1).toNat) (0, (0, (0, (0, (0, (0, false))))))).2).1, ((((m.2.getD ((i - 1).toNat) (0, (0, (0, (0, (0, (0, false))))))).2).2).1, (((((m.2.getD ((i - 1).toNat) (0, (0, (0, (0, (0, (0, false))))))).2).2).2).1, ((((((m.2.getD ((i - 1).toNat) (0, (0, (0, (0, (0, (0, false))))))).2).2).2).2).1, (((((((m.2.getD ((i - 1).toNat) (0, (0, (0, (0, (0, (0, false))))))).2).2).2).2).2).1, ((((((m.2.getD ((i - 1).toNat) (0, (0, (0, (0, (0, (0, false))))))).2).2).2).2).2).2)))))) ((aO m).1.getD (i - 1).toNat []) := rfl
  rw [<- e1]
  by_cases hs : 0 < szF (ofF (m.2.getD (i - 1).toNat i5) ((aO m).1.getD (i - 1).toNat [])).1
  ·rw [if_pos hs] at h
   rw [decide_eq_true hs, if_neg (by simp)]
   exact h
  ·rw [if_neg hs] at h
   rw [decide_eq_false hs, if_pos (by rfl)]
   exact h
end Go.Proofs.Ytbenbhdagmnapaa

namespace Go.Proofs.Ytbenbhdagmnapaa
open Go.Mach
set_option maxRecDepth 100000
set_option linter.unusedVariables false
set_option linter.unusedSimpArgs false
theorem aMs (a : Int) : ∃ v, ∀ Q : Int -> Prop, Q v -> eI a Q := ⟨_, fun Q h => ⟨⟨by decide, by decide, by decide, h⟩⟩⟩
theorem VM {a : Int} {Q : Int -> Prop} (h : ∀ r, Q r) : eI a Q := let ⟨v, k⟩ := aMs a; k Q (h v)
theorem aMx {a b c : Int} {Q : Int -> Prop} (h : ∀ r, Q r) : xJ a b c Q := ⟨VM fun _ => VM fun _ => VM h⟩
theorem aJ9 {a b c n : Int} {Q : Int -> Prop} (h : ∀ r, Q r) : qI a b c n Q := by
  refine ⟨?_⟩
  unfold wM
  split
  · exact h 0
  · rename_i hn
    have hn := Bool.eq_false_iff.2 hn
    simp only [Bool.or_eq_false_iff, decide_eq_false_iff_not] at hn
    have e : IntKind.u64.wrap n = n := by
      simp only [IntKind.wrap, IntKind.bits, IntKind.signed]
      simp
      omega
    rw [e]
    refine ⟨by omega, by omega, aMx fun r => ⟨?_⟩⟩
    refine Loop.rangeI (B := gK n _ (fun _ => Q 0) (fun y => Q y)) 100 (fun i s => s.2 = (i : Int)) rfl ?_ ?_
    · rintro i hi ⟨s1, s2⟩ rfl X hX
      unfold gK
      dsimp only
      rw [if_pos (decide_eq_true (show (i : Int) < 100 by omega))]
      split
      · exact ⟨by rw [e]; omega, h _⟩
      · refine VM fun r => ?_
        rw [aB ((i : Int) + 1) (by omega) (by omega)]
        exact hX _ rfl
    · rintro ⟨s1, s2⟩ rfl X
      unfold gK
      rw [if_neg (by simp)]
      exact h 0
theorem aMI (n : Nat) : All8 (List.replicate n 0) := fun y hy => by rw [(List.mem_replicate.1 hy).2]; omega
theorem aD7 {l : List Int} {x : Int} (h : All8 l) (hx : -128 <= x /\ x <= 127) : All8 (l ++ [x]) := fun y hy => by
 rcases List.mem_append.1 hy with hy | hy
 ·exact h y hy
 ·rw [List.mem_singleton.1 hy]; exact hx
theorem aNH {x : Lay} {d : List Int} (h : 0 < szF (ofF x d).1) : 1 <= (ofF x d).2 /\ (ofF x d).2 <= 4096 := by
 obtain ⟨_, hd, _⟩ := WU h
 unfold ofF at hd ⊢
 split
 ·rename_i e; rw [if_pos e] at hd; exact hd _ (by simp)
 ·rename_i e
  rw [if_neg e] at hd
  split
  ·rename_i e2; rw [if_pos e2] at hd; exact hd _ (by simp)
  ·rename_i e2
   have : (ofF x d).1 = [] := by unfold ofF; rw [if_neg e, if_neg e2]
   rw [this] at h
   exact absurd h (by decide)
theorem aOA {m : Mdl} {s : Int} {Q : List Prm × Int -> Prop} (hl : m.2.length <= 10000000000000) (h : ∀ ps e, (e = 0 -> ps.length = m.2.length /\ ∀ p ∈ ps, Prm8 p /\ p.1.2.2.length <= 1000000 /\ p.2.2.2.2.length <= 1000000) -> Q (ps, e)) : qK m s Q := by
  refine ⟨Y6 hl ?_⟩
  have e0 : aO ((m.1.1, m.1.2.1, m.1.2.2), m.2) = aO m := rfl
  rw [e0]
  split
  · rename_i hb
    exact h _ _ (fun e => absurd e (by simpa using hb))
  · rename_i hb
    have hb : (aO m).2.2 = 0 := by simpa using hb
    obtain ⟨hm, q2, q3⟩ := t6 hb
    obtain ⟨_, ⟨k1, k2⟩, _⟩ := k8 hm
    refine ⟨?_⟩
    refine Loop.rangeI (B := gC s m.2 (m.2.length : Int) (aO m).1 (fun y => Q (y, 0)) (fun _ => Q ([], 1))) m.2.length
      (fun i z => z.1 = (i : Int) /\ z.2.length = i /\ ∀ p ∈ z.2, Prm8 p /\ p.1.2.2.length <= 1000000 /\ p.2.2.2.2.length <= 1000000) ⟨rfl, rfl, fun p hp => (by cases hp)⟩ ?_ ?_
    · rintro i hi ⟨z1, z2⟩ ⟨rfl, e1, h8⟩ X hX
      unfold gC
      dsimp only at e1 h8 ⊢
      rw [if_pos (decide_eq_true (show (i : Int) < (m.2.length : Int) by omega))]
      refine ⟨by omega, by omega, ?_⟩
      simp only [Int.toNat_natCast]
      have hdi := aF2 hb (i := i) (by omega)
      refine aIF hdi.sz.2.2.2.1 ?_
      have n1 : ∀ {K : Int -> Prop}, K ((i : Int) + 1) -> iG (i : Int) K := fun {K} hK => ⟨by
        unfold rN
        rw [aB ((i : Int) + 1) (by omega) (by omega)]
        exact hK⟩
      split
      · refine ⟨by simp; omega, n1 (hX _ ⟨rfl, by simp [e1], fun p hp => ?_⟩)⟩
        rcases List.mem_append.1 hp with hp | hp
        · exact h8 p hp
        · rw [List.mem_singleton.1 hp]
          exact ⟨⟨fun y hy => (by cases hy), fun y hy => (by cases hy)⟩, by simp, by simp⟩
      · refine GY ?_
        split
        · exact h _ _ (fun e => absurd e (by decide))
        · rename_i hs
          have hs : 0 < szF (ofF ((m.2.getD i (0, (0, (0, (0, (0, (0, false))))))).1, (((m.2.getD i (0, (0, (0, (0, (0, (0, false))))))).2).1, ((((m.2.getD i (0, (0, (0, (0, (0, (0, false))))))).2).2).1, (((((m.2.getD i (0, (0, (0, (0, (0, (0, false))))))).2).2).2).1, ((((((m.2.getD i (0, (0, (0, (0, (0, (0, false))))))).2).2).2).2).1, (((((((m.2.getD i (0, (0, (0, (0, (0, (0, false))))))).2).2).2).2).2).1, ((((((m.2.getD i (0, (0, (0, (0, (0, (0, false))))))).2).2).2).2).2).2)))))) ((aO m).1.getD i [])).1 := by simpa using hs
          have hb2 := aNH hs
          refine ⟨by omega, XI ?_⟩
          have hz := OT (ofF ((m.2.getD i (0, (0, (0, (0, (0, (0, false))))))).1, (((m.2.getD i (0, (0, (0, (0, (0, (0, false))))))).2).1, ((((m.2.getD i (0, (0, (0, (0, (0, (0, false))))))).2).2).1, (((((m.2.getD i (0, (0, (0, (0, (0, (0, false))))))).2).2).2).1, ((((((m.2.getD i (0, (0, (0, (0, (0, (0, false))))))).2).2).2).2).1, (((((((m.2.getD i (0, (0, (0, (0, (0, (0, false))))))).2).2).2).2).2).1, ((((((m.2.getD i (0, (0, (0, (0, (0, (0, false))))))).2).2).2).2).2).2)))))) ((aO m).1.getD i [])).1
          refine ⟨by omega, ⟨?_⟩⟩
          unfold qS
          generalize (ofF _ _) = w at *
          refine ⟨?_⟩
          rw [List.length_replicate]
          refine Loop.rangeI (B := gI s (i : Int) ((szF w.1).toNat : Int) _) (szF w.1).toNat (fun j y => y.1 = (j : Int) /\ y.2.length = j /\ All8 y.2) ⟨rfl, rfl, fun y hy => (by cases hy)⟩ ?_ ?_
          · rintro j hj ⟨y1, y2⟩ ⟨rfl, f1, f2⟩ Y hY
            unfold gI
            dsimp only at f1 f2 ⊢
            rw [if_pos (decide_eq_true (show (j : Int) < ((szF w.1).toNat : Int) by omega))]
            refine aJ9 fun r => ⟨by simp; omega, ?_⟩
            rw [aB ((j : Int) + 1) (by omega) (by omega)]
            exact hY _ ⟨rfl, by simp [f1], aD7 f2 (OM _)⟩
          · rintro ⟨y1, y2⟩ ⟨rfl, f1, f2⟩ Y
            dsimp only at f1 f2
            unfold gI
            rw [if_neg (by simp)]
            refine ⟨by simp; omega, n1 (hX _ ⟨rfl, by simp [e1], fun p hp => ?_⟩)⟩
            rcases List.mem_append.1 hp with hp | hp
            · exact h8 p hp
            · rw [List.mem_singleton.1 hp]
              exact ⟨⟨f2, aMI _⟩, by dsimp only; omega, by dsimp only; rw [List.length_replicate]; omega⟩
    · rintro ⟨z1, z2⟩ ⟨rfl, e1, h8⟩ X
      unfold gC
      rw [if_neg (by simp)]
      exact h _ _ fun _ => ⟨e1, h8⟩
theorem aCy {kd : IntKind} {v : Int} {T : Ty} {l m : List T.den} (h : SE kd v (.slc T) l m) : m.length = l.length := h.1
theorem SE8 {v : Int} {l m : List Int} (hv : -128 <= v /\ v <= 127) (h : SE .i8 v (.slc (.int .i8)) l m) (h8 : All8 l) : All8 m := by
 intro y hy
 obtain ⟨i, hi⟩ := List.mem_iff_getElem?.1 hy
 have hlt := (List.getElem?_eq_some_iff.1 hi).1
 have := h.2 i _ y (List.getElem?_eq_getElem (by have := h.1; omega)) hi
 rcases this with e | ⟨_, e⟩
 ·rw [e]; exact h8 _ (List.getElem_mem _)
 ·rw [e]; exact hv
abbrev aPV : Ty := .pair (.pair (.slc (.int .i64)) (.pair (.int .i64) (.slc (.int .i8)))) (.pair (.slc (.int .i32)) (.pair (.slc (.int .i64)) (.pair (.int .i64) (.slc (.int .i8)))))
def shp (p : Prm) : Nat × Nat := (p.1.2.2.length, p.2.2.2.2.length)
theorem SEp {v : Int} {l m : List Prm} (hv : -128 <= v /\ v <= 127) (h : SE .i8 v (.slc aPV) l m) : m.map shp = l.map shp /\ ((∀ p ∈ l, Prm8 p) -> ∀ p ∈ m, Prm8 p) := by
 have key : ∀ (i : Nat) (x y : Prm), l[i]? = some x -> m[i]? = some y -> shp y = shp x /\ (Prm8 x -> Prm8 y) := by
  intro i x y hx hy
  obtain ⟨⟨_, _, h1⟩, _, _, _, h2⟩ := h.2 i x y hx hy
  have h1 : SE .i8 v (.slc (.int .i8)) x.1.2.2 y.1.2.2 := h1
  have h2 : SE .i8 v (.slc (.int .i8)) x.2.2.2.2 y.2.2.2.2 := h2
  exact ⟨Prod.ext h1.1 h2.1, fun k => ⟨SE8 hv h1 k.1, SE8 hv h2 k.2⟩⟩
 constructor
 ·refine List.ext_getElem? fun i => ?_
  rw [List.getElem?_map, List.getElem?_map]
  by_cases hi : i < l.length
  ·have hj : i < m.length := by rw [aCy h]; exact hi
   rw [List.getElem?_eq_getElem hi, List.getElem?_eq_getElem hj]
   exact congrArg some (key i _ _ (List.getElem?_eq_getElem hi) (List.getElem?_eq_getElem hj)).1
  ·rw [List.getElem?_eq_none (by rw [aCy h]; omega), List.getElem?_eq_none (by omega)]
 ·intro k p hp
  obtain ⟨i, hi⟩ := List.mem_iff_getElem?.1 hp
  have hlt := (List.getElem?_eq_some_iff.1 hi).1
  have hl : i < l.length := by have := aCy h; omega
  exact (key i _ p (List.getElem?_eq_getElem hl) hi).2 (k _ (List.getElem_mem _))
theorem aD1 {l m : List Prm} (h : m.map shp = l.map shp) (i : Nat) : m.length = l.length /\ shp (m.getD i j9) = shp (l.getD i j9) := by
  have hl : m.length = l.length := by have := congrArg List.length h; simpa using this
  refine ⟨hl, ?_⟩
  have := congrArg (fun x => x[i]?) h
  simp only [List.getElem?_map] at this
  rw [List.getD_eq_getElem?_getD, List.getD_eq_getElem?_getD]
  cases e1 : m[i]? with
  | none =>
    rw [e1] at this
    cases e2 : l[i]? with
    | none => rfl
    | some x => rw [e2] at this; cases this
  | some y =>
    rw [e1] at this
    cases e2 : l[i]? with
    | none => rw [e2] at this; cases this
    | some x => rw [e2] at this; simpa using this
structure MdOk (ps0 : List Prm) (by_ x : List Int) (ps : List Prm) : Prop where
 b8 : All8 by_
 x8 : All8 x
 p8 : ∀ p ∈ ps, Prm8 p
 sh : ps.map shp = ps0.map shp
theorem MdOk.step {ps0 ps qs : List Prm} {b x b2 x2 : List Int} (h : MdOk ps0 b x ps) {i : Nat} (h1 : SE .i8 (b.getD i 0) (.slc (.int .i8)) b b2) (h2 : SE .i8 (b.getD i 0) (.slc (.int .i8)) x x2) (h3 : SE .i8 (b.getD i 0) (.slc aPV) ps qs) : MdOk ps0 b2 x2 qs :=
 have hv := h.b8.at_ i
 ⟨SE8 hv h1 h.b8, SE8 hv h2 h.x8, (SEp hv h3).2 h.p8, (SEp hv h3).1.trans h.sh⟩
theorem aNQ {ps0 : List Prm} {j n : Nat} {k : Int} {b x : List Int} {ps : List Prm} {K : Int × List Int × List Int × List Prm -> Prop} (hj : j < ps0.length) (hn : n = (ps0.getD j j9).1.2.2.length) (hn2 : n <= 1000000000) (hk : 0 <= k /\ k <= 10000000000000) (hb : b.length <= 1000000000000000) (h0 : MdOk ps0 b x ps)
    (h : ∀ k' b' x' ps', (k' = k + n) -> b'.length = b.length -> MdOk ps0 b' x' ps' -> K (k', b', x', ps')) : lO (j : Int) (n : Int) K (k, 0, b, x, ps) := by
  refine ⟨?_⟩
  refine Loop.rangeI (B := gH (j : Int) (n : Int) K) n (fun i z => z.1 = k + i /\ z.2.1 = (i : Int) /\ z.2.2.1.length = b.length /\ MdOk ps0 z.2.2.1 z.2.2.2.1 z.2.2.2.2) ⟨by simp, rfl, rfl, h0⟩ ?_ ?_
  · rintro i hi ⟨z1, z2, b1, x1, p1⟩ ⟨rfl, rfl, e1, g⟩ X hX
    unfold gH
    dsimp only at e1 g ⊢
    rw [if_pos (decide_eq_true (show (i : Int) < (n : Int) by omega))]
    have n7 : ∀ {K : Int -> Prop}, K (k + (i + 1 : Nat)) -> iB (k + (i : Int)) K := fun {K} hK => ⟨by
      unfold rE
      rw [aB _ (by omega) (by omega)]
      exact cast (congrArg K (by omega)) hK⟩
    refine EY (b := decide (k + (i : Int) < (b1.length : Int))) (c := (b1.getD (k + (i : Int)).toNat 0 != (-128))) (fun hlt P hP => ⟨⟨by omega, by simpa using hlt⟩, hP⟩) (fun v e => ?_) rfl
    rw [aB ((i : Int) + 1) (by omega) (by omega)]
    cases v with
    | false =>
      rw [if_neg (by simp)]
      exact n7 (hX _ ⟨rfl, rfl, e1, g⟩)
    | true =>
      rw [if_pos rfl]
      have hlt : k + (i : Int) < (b1.length : Int) := by
        have := e.symm
        simp only [Bool.and_eq_true, decide_eq_true_eq] at this
        exact this.1
      obtain ⟨s1, s2⟩ := aD1 g.sh j
      have s3 : (p1.getD j j9).1.2.2.length = (ps0.getD j j9).1.2.2.length := congrArg Prod.fst s2
      simp only [Int.toNat_natCast]
      refine ⟨by omega, by omega, ⟨by omega, by show (i : Int) < ((p1.getD j j9).1.2.2.length : Int); omega⟩, ?_⟩
      intro m1 h1 m2 h2 m3 h3
      exact n7 (hX _ ⟨rfl, rfl, (aCy h1).trans e1, g.step h1 h2 h3⟩)
  · rintro ⟨z1, z2, b1, x1, p1⟩ ⟨rfl, rfl, e1, g⟩ X
    unfold gH
    rw [if_neg (by simp)]
    exact h _ _ _ _ rfl e1 g
theorem aNI {ps0 : List Prm} {j n : Nat} {k : Int} {b x : List Int} {ps : List Prm} {K : Int × List Int × List Int × List Prm -> Prop} (hj : j < ps0.length) (hn : n = (ps0.getD j j9).2.2.2.2.length) (hn2 : n <= 1000000000) (hk : 0 <= k /\ k <= 10000000000000) (hb : b.length <= 1000000000000000) (h0 : MdOk ps0 b x ps)
    (h : ∀ k' b' x' ps', (k' = k + n) -> b'.length = b.length -> MdOk ps0 b' x' ps' -> K (k', b', x', ps')) : mE (j : Int) (n : Int) K (k, 0, b, x, ps) := by
  refine ⟨?_⟩
  refine Loop.rangeI (B := gF (j : Int) (n : Int) K) n (fun i z => z.1 = k + i /\ z.2.1 = (i : Int) /\ z.2.2.1.length = b.length /\ MdOk ps0 z.2.2.1 z.2.2.2.1 z.2.2.2.2) ⟨by simp, rfl, rfl, h0⟩ ?_ ?_
  · rintro i hi ⟨z1, z2, b1, x1, p1⟩ ⟨rfl, rfl, e1, g⟩ X hX
    unfold gF
    dsimp only at e1 g ⊢
    rw [if_pos (decide_eq_true (show (i : Int) < (n : Int) by omega))]
    have n7 : ∀ {K : Int -> Prop}, K (k + (i + 1 : Nat)) -> iC (k + (i : Int)) K := fun {K} hK => ⟨by
      unfold qZ
      rw [aB _ (by omega) (by omega)]
      exact cast (congrArg K (by omega)) hK⟩
    refine EY (b := decide (k + (i : Int) < (b1.length : Int))) (c := (b1.getD (k + (i : Int)).toNat 0 != (-128))) (fun hlt P hP => ⟨⟨by omega, by simpa using hlt⟩, hP⟩) (fun v e => ?_) rfl
    rw [aB ((i : Int) + 1) (by omega) (by omega)]
    cases v with
    | false =>
      rw [if_neg (by simp)]
      exact n7 (hX _ ⟨rfl, rfl, e1, g⟩)
    | true =>
      rw [if_pos rfl]
      have hlt : k + (i : Int) < (b1.length : Int) := by
        have := e.symm
        simp only [Bool.and_eq_true, decide_eq_true_eq] at this
        exact this.1
      obtain ⟨s1, s2⟩ := aD1 g.sh j
      have s3 : (p1.getD j j9).2.2.2.2.length = (ps0.getD j j9).2.2.2.2.length := congrArg Prod.snd s2
      simp only [Int.toNat_natCast]
      refine ⟨by omega, by omega, ⟨by omega, by show (i : Int) < ((p1.getD j j9).2.2.2.2.length : Int); omega⟩, ?_⟩
      intro m1 h1 m2 h2 m3 h3
      exact n7 (hX _ ⟨rfl, rfl, (aCy h1).trans e1, g.step h1 h2 h3⟩)
  · rintro ⟨z1, z2, b1, x1, p1⟩ ⟨rfl, rfl, e1, g⟩ X
    unfold gF
    rw [if_neg (by simp)]
    exact h _ _ _ _ rfl e1 g
theorem aN2 {ps : List Prm} {b x : List Int} {K : List Int × List Int × List Prm -> Prop} (hl : ps.length <= 1000) (hs : ∀ p ∈ ps, p.1.2.2.length <= 1000000 /\ p.2.2.2.2.length <= 1000000) (hb : b.length <= 1000000000000000) (h0 : MdOk ps b x ps)
  (h : ∀ b' x' ps', MdOk ps b' x' ps' -> K (b', x', ps')) : lW (ps.length : Int) K (0, 0, b, x, ps) := by
 refine ⟨?_⟩
 refine Loop.rangeI (B := gG (ps.length : Int) K) ps.length (fun i z => (0 <= z.1 /\ z.1 <= i * 2000000) /\ z.2.1 = (i : Int) /\ z.2.2.1.length = b.length /\ MdOk ps z.2.2.1 z.2.2.2.1 z.2.2.2.2) ⟨⟨Int.le_refl _, by simp⟩, rfl, rfl, h0⟩ ?_ ?_
 ·rintro i hi ⟨k, z2, b1, x1, p1⟩ ⟨hk, rfl, e1, g⟩ X hX
  unfold gG
  dsimp only at hk e1 g ⊢
  rw [if_pos (decide_eq_true (show (i : Int) < (ps.length : Int) by omega))]
  obtain ⟨s1, s2⟩ := aD1 g.sh i
  have hm : ps.getD i j9 ∈ ps := by rw [List.getD_eq_getElem?_getD, List.getElem?_eq_getElem hi]; exact List.getElem_mem _
  obtain ⟨m1, m2⟩ := hs _ hm
  refine ⟨by omega, ?_⟩
  simp only [Int.toNat_natCast]
  refine aNQ (ps0 := ps) hi (congrArg Prod.fst s2) (by have : (p1.getD i j9).1.2.2.length = _ := congrArg Prod.fst s2; show (p1.getD i j9).1.2.2.length <= _; rw [this]; show (ps.getD i j9).1.2.2.length <= _; omega) (by omega) (by omega) g ?_
  intro k' b2 x2 p2 ek eb g2
  obtain ⟨t1, t2⟩ := aD1 g2.sh i
  have w1 : (p1.getD i j9).1.2.2.length = (ps.getD i j9).1.2.2.length := congrArg Prod.fst s2
  have w2 : (p2.getD i j9).2.2.2.2.length = (ps.getD i j9).2.2.2.2.length := congrArg Prod.snd t2
  have ek : k' = k + ((p1.getD i j9).1.2.2.length : Nat) := ek
  dsimp only
  refine ⟨by omega, aNI (ps0 := ps) hi w2 (by show (p2.getD i j9).2.2.2.2.length <= _; omega) (by omega) (by omega) g2 ?_⟩
  intro k3 b3 x3 p3 ek3 eb3 g3
  have ek3 : k3 = k' + ((p2.getD i j9).2.2.2.2.length : Nat) := ek3
  rw [aB ((i : Int) + 1) (by omega) (by omega)]
  exact hX _ ⟨⟨by dsimp only; omega, by dsimp only; omega⟩, rfl, by dsimp only; omega, g3⟩
 ·rintro ⟨k, z2, b1, x1, p1⟩ ⟨hk, rfl, e1, g⟩ X
  unfold gG
  rw [if_neg (by simp)]
  exact h _ _ _ g
theorem aNm {n : Nat} {x : List Int} {K : List Int -> Prop} (hn : n <= 1000000) (hx : All8 x) (h : ∀ l, All8 l -> K l) : mC (n : Int) x K (0, []) := by
  refine ⟨?_⟩
  refine Loop.rangeI (B := gJ (n : Int) x K) n (fun i z => z.1 = (i : Int) /\ z.2.length = i /\ All8 z.2) ⟨rfl, rfl, fun y hy => (by cases hy)⟩ ?_ ?_
  · rintro i hi ⟨z1, l⟩ ⟨rfl, e1, g⟩ X hX
    unfold gJ
    dsimp only at e1 g ⊢
    rw [if_pos (decide_eq_true (show (i : Int) < (n : Int) by omega))]
    refine ⟨by decide, ?_⟩
    refine EY (b := decide ((i : Int) < (x.length : Int))) (c := (x.getD i 0 != (-128))) (fun hlt P hP => ⟨⟨by omega, by simpa using hlt⟩, by rw [Int.toNat_natCast]; exact hP⟩) (fun v e => ?_) rfl
    rw [aB ((i : Int) + 1) (by omega) (by omega)]
    cases v with
    | false =>
      rw [if_neg (by simp)]
      refine ⟨?_⟩
      unfold jQ
      exact ⟨by simp; omega, hX _ ⟨rfl, by simp [e1], aD7 g (OM _)⟩⟩
    | true =>
      rw [if_pos rfl]
      have hlt : (i : Int) < (x.length : Int) := by
        have := e.symm
        simp only [Bool.and_eq_true, decide_eq_true_eq] at this
        exact this.1
      refine ⟨⟨by omega, hlt⟩, ⟨?_⟩⟩
      unfold jQ
      exact ⟨by simp; omega, hX _ ⟨rfl, by simp [e1], aD7 g (hx.at_ _)⟩⟩
  · rintro ⟨z1, l⟩ ⟨rfl, e1, g⟩ X
    unfold gJ
    rw [if_neg (by simp)]
    exact h _ g
abbrev aOV := Mdl × Int × List Int × Int × List Int × Int
theorem aOd {n : aOV} {Q : List Prm × T3 × Int -> Prop} (hl : n.1.2.length <= 10000000000000) (hb : n.2.2.1.length <= 1000000000000000) (b8 : All8 n.2.2.1) (x8 : All8 n.2.2.2.2.1)
    (h : ∀ ps x e, (e = 0 -> ps.length = n.1.2.length /\ (∀ p ∈ ps, Prm8 p) /\ All8 x.2.2 /\ (aO n.1).2.2 = 0) -> Q (ps, x, e)) : qE n Q := by
  obtain ⟨m, seed, by_, N, X, ex⟩ := n
  dsimp only at hl hb b8 x8 h
  refine ⟨Y6 hl ?_⟩
  have e0 : aO ((m.1.1, m.1.2.1, m.1.2.2), m.2) = aO m := rfl
  dsimp only
  rw [e0]
  split
  · rename_i he
    exact h _ _ _ (fun e => absurd e (by simpa using he))
  · rename_i he
    have he : (aO m).2.2 = 0 := by simpa using he
    obtain ⟨hm, q2, q3⟩ := t6 he
    obtain ⟨hin, ⟨k1, k2⟩, _⟩ := k8 hm
    refine ⟨?_⟩
    have bad : ∀ e : Int, e ≠ 0 -> Q ([], ([], (0, [])), e) := fun e he => h _ _ _ fun e1 => absurd e1 he
    refine Loop.rangeI (B := gB ((aO m).1.length : Int) m.1.1 m.1.2.1 m.1.2.2 m.2 (aO m).1 _ _) (aO m).1.length (fun i z => z.2 = (i : Int)) rfl ?_ ?_
    · rintro i hi ⟨z1, z2⟩ rfl Y hY
      unfold gB
      dsimp only
      rw [if_pos (decide_eq_true (show (i : Int) < ((aO m).1.length : Int) by omega))]
      refine ⟨by omega, ?_⟩
      rw [aB ((i : Int) + 1) (by omega) (by omega)]
      have n3 : ∀ r : Int, iF z1 ((aO m).1.getD ((i : Int)).toNat []) r fun y => Y (y, (i : Int) + 1) := fun r => ⟨XI (hY _ rfl)⟩
      split
      · rename_i h0
        have h0 : 0 < i := by simpa using h0
        refine aNP hl (XI ?_)
        rw [aB ((i : Int) - 1) (by omega) (by omega)]
        refine EY (b := (((BG ((m.1.1, m.1.2.1, m.1.2.2), m.2) (i : Int)).1.length : Int) == 0)) (c := ((m.2.getD ((i : Int) - 1).toNat i5).1 == 1 || (m.2.getD ((i : Int) - 1).toNat i5).1 == 2)) (fun _ P hP => ⟨by omega, ?_⟩) (fun v e => ?_) rfl
        · refine XT (b := (m.2.getD ((i : Int) - 1).toNat i5).1 == 1) (c := (m.2.getD ((i : Int) - 1).toNat i5).1 == 2) (fun _ P' hP' => ⟨by omega, hP'⟩) (fun v e => ?_) rfl
          rw [e]; exact hP
        · split
          · exact bad 1 (by decide)
          · exact n3 _
      · exact n3 0
    · rintro ⟨z1, z2⟩ rfl Y
      unfold gB
      rw [if_neg (by simp)]
      dsimp only
      split
      · exact bad 10 (by decide)
      · refine aOA hl fun ps e hps => ?_
        dsimp only
        split
        · rename_i he
          exact bad e (by simpa using he)
        · rename_i he
          have he : e = 0 := by simpa using he
          obtain ⟨p1, p2⟩ := hps he
          have p1 : ps.length = m.2.length := p1
          refine aN2 (by omega) (fun p hp => (p2 p hp).2) hb ⟨b8, x8, fun p hp => (p2 p hp).1, rfl⟩ ?_
          intro b' x' ps' g
          have gl := (aD1 g.sh 0).1
          refine ⟨by decide, by decide, XI ?_⟩
          have hz := OT [IntKind.i64.wrap (1 + (IntKind.i64.wrap ((IntKind.u64.wrap N).tmod 3))), m.1.1, m.1.2.1, m.1.2.2]
          have hz0 := UJ [IntKind.i64.wrap (1 + (IntKind.i64.wrap ((IntKind.u64.wrap N).tmod 3))), m.1.1, m.1.2.1, m.1.2.2]
          obtain ⟨k, hk⟩ : ∃ k : Nat, szF [IntKind.i64.wrap (1 + (IntKind.i64.wrap ((IntKind.u64.wrap N).tmod 3))), m.1.1, m.1.2.1, m.1.2.2] = k := ⟨_, (Int.toNat_of_nonneg hz0).symm⟩
          rw [hk] at hz ⊢
          exact aNm (by omega) g.x8 fun l hl8 => h _ _ _ fun _ => ⟨by rw [gl]; exact p1, g.p8, hl8, by assumption⟩
end Go.Proofs.Ytbenbhdagmnapaa

namespace Go.Proofs.Ytbenbhdagmnapaa
open Go.Mach Go.RowKit
set_option maxRecDepth 100000
set_option linter.unusedVariables false
set_option linter.unusedSimpArgs false
theorem aJZ : aMS ([1, 2], 0, [1, 2]) ([1, 2], 0, [3, 4]) ([1], 0, [5]) = (([1, 1], 0, [16]), 0) := by decide +kernel
theorem aHH {s t : Int} : DV ([1, 1], 0, [16]) 8 s t = (([1, 1], 0, [16]), 0) := by
 have h1 : ((!(u5 ([1, 1], 0, [16])) || (decide ((8 : Int) < 2))) || (decide ((8 : Int) < 8))) = false := by decide +kernel
 have h2 : AL ([1, 1], 0, [16]) 8 = 0 := by decide +kernel
 unfold DV
 rw [h1, h2, if_neg (by simp), if_neg (by decide +kernel)]
 unfold aDn
 show (([1, 1], _, [aHi 8 s t 0 [16] 0]), 0) = _
 unfold aHi
 rw [aLa]
 decide +kernel
theorem aCC {Q : Bool -> Prop} (h : Q true) : dK Q := by
 refine ⟨⟨⟨?_⟩⟩⟩
 unfold GB
 refine aHx ?_
 unfold jn
 dsimp only
 rw [if_neg (by decide)]
 refine aMg (by decide) ?_
 have hP : GM ((1, (1, 2)), [(6, (0, (0, (0, (0, (0, false)))))), (1, (1, (0, (0, (0, (0, false))))))]) [((([] : List Int), (0, ([] : List Int))), (([] : List Int), (([] : List Int), (0, ([] : List Int))))), (([1, 2], (0, [3, 4])), ([0, 0], ([1], (0, [5]))))] = true := by decide +kernel
 rw [hP, if_neg (by simp)]
 refine sB ?_
 have hx : dY ([1, 1, 1, 2], (0, [1, 2])) = true := by decide +kernel
 rw [hx]
 simp only [Bool.not_true, Bool.false_eq_true, if_false]
 rw [if_neg (by decide)]
 refine ⟨by decide, aEU (by decide) ?_⟩
 rw [if_neg (by decide)]
 refine E1 (by decide) (aCP (by decide) ⟨?_⟩)
 intro X hX
 refine hX _ ?_
 unfold fN
 dsimp only
 rw [if_pos (by decide)]
 refine ⟨by decide, by decide, aKX ⟨⟨?_⟩⟩⟩
 unfold uJ
 refine ⟨by decide, ?_⟩
 rw [if_neg (by decide), if_neg (by decide), if_neg (by decide), if_neg (by decide)]
 dsimp only
 rw [if_neg (by decide), if_neg (by decide)]
 refine ⟨by decide, ?_⟩
 rw [if_neg (by decide), if_neg (by decide)]
 have hf : RQ ([1, 1, 1, 2], (0, [1, 2])) = (([1, 2], 0, [1, 2]), 0) := by decide +kernel
 have hT : ([([1, 1, 1, 2], (0 : Int), [1, 2])] : List T3).getD (IntKind.i64.wrap ((([([1, 1, 1, 2], (0 : Int), [1, 2])] : List T3).length : Int) - 1)).toNat ([], (0, [])) = ([1, 1, 1, 2], 0, [1, 2]) := by decide +kernel
 simp only [hT]
 refine aL5 ⟨?_⟩
 unfold DN
 rw [hf]
 dsimp only
 rw [if_neg (by decide)]
 refine ⟨by decide, by decide, hX _ ?_⟩
 unfold fN
 dsimp only
 rw [if_pos (by decide)]
 refine ⟨by decide, by decide, aKX ⟨⟨?_⟩⟩⟩
 unfold uJ
 refine ⟨by decide, ?_⟩
 rw [if_pos (by decide)]
 have hT2 : ([([1, 1, 1, 2], (0 : Int), [1, 2])] ++ [([1, 2], (0 : Int), [1, 2])] : List T3).getD (IntKind.i64.wrap ((([([1, 1, 1, 2], (0 : Int), [1, 2])] ++ [([1, 2], (0 : Int), [1, 2])] : List T3).length : Int) - 1)).toNat ([], (0, [])) = ([1, 2], 0, [1, 2]) := by decide +kernel
 simp only [hT2]
 have hP2 : ([(([], 0, []), [], [], 0, []), (([1, 2], 0, [3, 4]), [0, 0], [1], 0, [5])] : List Prm).getD (IntKind.i64.wrap (0 + 1)).toNat j9 = (([1, 2], 0, [3, 4]), [0, 0], [1], 0, [5]) := by decide +kernel
 simp only [hP2]
 refine aNp (by intro y hy; simp at hy; omega) (by intro y hy; simp at hy; omega) (by intro y hy; simp at hy; omega) ?_
 rw [aJZ]
 dsimp only
 rw [if_neg (by decide), if_pos (by decide)]
 refine aKF ?_
 rw [aHH]
 dsimp only
 rw [if_neg (by decide)]
 refine ⟨by decide, by decide, hX _ ?_⟩
 unfold fN
 dsimp only
 rw [if_neg (by decide), if_pos (by decide)]
 refine ⟨by decide, ?_⟩
 rw [if_pos (by decide)]
 refine ⟨by decide, by decide, ?_⟩
 rw [if_pos (by decide)]
 refine aKX ?_
 rw [show aEd 2 3 4 = 2100 by decide]
 exact h
end Go.Proofs.Ytbenbhdagmnapaa

namespace Go.Proofs.Ytbenbhdagmnapaa
open Go.Mach
set_option maxRecDepth 100000
set_option linter.unusedVariables false
set_option linter.unusedSimpArgs false
theorem aPa : aOp 8 = 127 := by decide +kernel
theorem cl8 (a : Int) : -127 <= clF a 8 /\ clF a 8 <= 127 := by
 unfold clF
 rw [aPa, show IntKind.i64.wrap (0 - 127) = -127 by decide +kernel]
 exact aCL (O3 a) (-127) 127 (by omega)
theorem aKZ (x : Int) (h1 : -128 <= x) (h2 : x <= 127) : IntKind.i8.wrap x = x := by
 simp only [IntKind.wrap, IntKind.bits, IntKind.signed]
 simp
 split <;> omega
theorem aKy {a : T3} {s t : Int} (h : (DV a 8 s t).2 = 0) : dY (DV a 8 s t).1 = true := by
 unfold DV at h ⊢
 split at h
 ·exact absurd (show (1 : Int) = 0 from h) (by decide)
 rename_i h1
 rw [if_neg h1]
 split at h
 ·exact absurd (show (3 : Int) = 0 from h) (by decide)
 rename_i h2
 rw [if_neg h2]
 have h1 := Bool.eq_false_iff.2 h1
 simp only [Bool.or_eq_false_iff, Bool.not_eq_false'] at h1
 have h2 : aBq (IntKind.i64.wrap (a.2.1 + AL a 8)) 64 = true := by simpa using h2
 obtain ⟨m1, m2, _⟩ := OH h1.1.1
 refine jO.2 ⟨m1, ?_, (aIH (by omega) (by omega)).1 h2, ?_⟩
 ·show ((aDn 8 s t (AL a 8) a.2.2).length : Int) = _
  unfold aDn
  rw [List.length_map, List.length_range]
  exact m2
 ·intro hm
  have hm : (-128 : Int) ∈ aDn 8 s t (AL a 8) a.2.2 := hm
  unfold aDn at hm
  obtain ⟨i, _, hi⟩ := List.mem_map.1 hm
  unfold aHi at hi
  have := cl8 (chF (IntKind.i64.wrap (a.2.2.getD i 0)) (AL a 8) (atF s t (IntKind.u64.wrap (i : Int))))
  rw [aKZ _ (by omega) (by omega)] at hi
  omega
theorem aLb {x : T3} (h : (XE x).2 = 0) : dY (XE x).1 = true := by
 unfold XE at h ⊢
 split at h
 ·rename_i hm
  rw [if_pos hm]
  obtain ⟨h1, h2, h3, h4⟩ := jO.1 hm
  refine jO.2 ⟨h1, by show ((x.2.2.map (aP 0)).length : Int) = _; rw [List.length_map]; exact h2, h3, ?_⟩
  intro hm
  obtain ⟨y, _, hy⟩ := List.mem_map.1 (show (-128 : Int) ∈ x.2.2.map (aP 0) from hm)
  unfold aP at hy
  split at hy <;> omega
 ·exact absurd (show (1 : Int) = 0 from h) (by decide)
theorem aLi {x : T3} (h : (RQ x).2 = 0) : dY (RQ x).1 = true := by
  unfold RQ aCx at h ⊢
  split at h
  · rename_i hm
    rw [if_pos hm]
    split at h
    · rename_i h1
      rw [if_pos h1]
      split at h
      · rename_i h2
        rw [if_pos h2]
        obtain ⟨_, _, h3, h4⟩ := jO.1 hm
        exact jO.2 ⟨h1.2, h2.symm, h3, h4⟩
      · exact absurd (show (2 : Int) = 0 from h) (by decide)
    · exact absurd (show (1 : Int) = 0 from h) (by decide)
  · exact absurd (show (1 : Int) = 0 from h) (by decide)
theorem aKS {n : Nat} {k s : Int} {P : Nat} (h : bR n k s 0 = P) (h1 : 1 <= P) : P <= n := by
 obtain ⟨a, b, c, d, e, f⟩ := JS (n := (n : Int)) (k := k) (s := s) (p := 0) (by omega)
 have h3 : ((n : Int) + 2 * 0 - k) / s <= n + 2 * 0 - k := Int.ediv_le_self _ (by omega)
 omega
theorem aMw {x : T3} {k s : Int} (h : (aH3 x k s).2.2 = 0) : dY (aH3 x k s).1 = true := by
 unfold aH3 at h ⊢
 split at h
 ·rename_i he
  exact absurd h (by simpa using he)
 rename_i he
 rw [if_neg he]
 have he : plE x k s = 0 := by simpa using he
 obtain ⟨N, H, V, P, Q, n, m, ex, eN, g, hm, hb⟩ := aLx he
 obtain ⟨h1, h2, h3, h4⟩ := jO.1 hm
 have hP := aKS g.hP g.p1
 have hQ := aKS g.hQ g.q1
 have g2 := g.p1
 have g3 := g.q1
 have hNPQ : N * (P * Q) <= N * (H * V) := Nat.mul_le_mul (Nat.le_refl _) (Nat.mul_le_mul hP hQ)
 have bx := g.bx
 have hle := g.le
 have hsz : szF [(n : Int), m, P, Q] = ((n * m * P * Q : Nat) : Int) := aMq (by omega) (by omega) (by omega) (by omega) (by rw [Nat.mul_assoc, <- eN]; omega)
 have hpos : 1 <= n * m * P * Q := Nat.mul_pos (Nat.mul_pos (Nat.mul_pos (by omega) (by omega)) (by omega)) (by omega)
 have en : ((n : Int) * (m : Int)).toNat = N := by rw [eN, <- Int.natCast_mul]; exact Int.toNat_natCast _
 have eD : plD x k s = [(n : Int), m, P, Q] := by unfold plD; rw [ex]; simp only [List.getD_cons_succ, List.getD_cons_zero]; rw [g.hP, g.hQ]
 have eNn : plN x k s = N * (P * Q) := by unfold plN; rw [ex]; simp only [List.getD_cons_succ, List.getD_cons_zero]; rw [g.hP, g.hQ, en]; simp
 refine jO.2 ⟨by show 0 < szF (plD x k s); rw [eD, hsz]; omega, ?_, h3, ?_⟩
 ·show (((aDu x k s).map _).length : Int) = szF (plD x k s)
  rw [List.length_map, eD, hsz]
  unfold aDu tab
  rw [List.length_map, List.length_range, eNn, eN, Nat.mul_assoc (n * m) P Q]
 ·intro hmm
  obtain ⟨a, ha, hy⟩ := List.mem_map.1 (show (-128 : Int) ∈ (aDu x k s).map fun a => x.2.2.getD a.toNat 0 from hmm)
  unfold aDu at ha
  obtain ⟨t, ht, rfl⟩ := aMz ha
  rw [eNn] at ht
  have hPQ : 0 < P * Q := Nat.mul_pos (by omega) (by omega)
  obtain ⟨c1, c2, c3⟩ := W7 ht
  have c4 := g.cell c1 c2
  have c5 := g.addr c1 c2
  have eA : plA x k s t = CG H V k s P Q (t / (P * Q) * (P * Q) + t % (P * Q)) := by
   rw [<- c3]
   unfold plA
   rw [ex]
   simp only [List.getD_cons_succ, List.getD_cons_zero]
   rw [g.hP, g.hQ]
   simp
  have hne : plA x k s t ≠ [] := by
   rw [eA, c4.2.2.2.2]
   simpa using c4.2.2.2.1
  have := c5 _ (eA ▸ aFJ (X := x.2.2) hne)
  have hlt : (W9 x.2.2 (plA x k s t)).toNat < x.2.2.length := by rw [<- eA] at this; exact (Int.toNat_lt this.1).2 this.2
  apply h4
  rw [<- hy]
  exact V6 hlt
theorem aFw {x : Lay} {p : Prm} {l : List T3} {s t : Int} (h : (vR x p l s t).2.2 = 0) : dY (vR x p l s t).1 = true := by
 unfold vR at h ⊢
 split at h
 ·rename_i he
  exact absurd h (by simpa using he)
 rename_i he
 rw [if_neg he]
 split at h
 ·rename_i h1
  rw [if_pos h1]; exact aKy h
 rename_i h1
 rw [if_neg h1]
 split at h
 ·rename_i h1
  rw [if_pos h1]; exact aMw h
 rename_i h1
 rw [if_neg h1]
 split at h
 ·rename_i h1
  rw [if_pos h1]; exact aLb h
 ·rename_i h1
  rw [if_neg h1]; exact aLi h
def TenMay (l : List T3) : Prop := ∀ t ∈ l, dY t = true
theorem aCV {ps : List Prm} {s st : Int} : ∀ (r : List Lay) (i : Nat) (a : Act), (oG ps s st r i a).2.2 = 0 -> TenMay a.1 ->
    (∃ t, (oG ps s st r i a).1.1 = a.1 ++ t /\ t.length = r.length) /\ TenMay (oG ps s st r i a).1.1 /\ (oG ps s st r i a).2.1 = 0
  | [], i, a, h, hm => ⟨⟨[], by simp [oG], rfl⟩, hm, rfl⟩
  | x :: r, i, a, h, hm => by
    unfold oG at h ⊢
    split at h
    · rename_i he
      exact absurd h (by simpa using he)
    · rename_i he
      rw [if_neg he]
      have he : (vR x (ps.getD i j9) a.1 s (aEd st ((i : Int) + 1) 0)).2.2 = 0 := by simpa using he
      obtain ⟨⟨t, h1, h2⟩, h3⟩ := aCV r (i + 1) _ h (by
        intro t ht
        rcases List.mem_append.1 ht with ht | ht
        · exact hm t ht
        · rw [List.mem_singleton.1 ht]; exact aFw he)
      exact ⟨⟨_ :: t, by rw [h1, List.append_assoc]; rfl, by simp [h2]⟩, h3⟩
theorem aGA {ps : List Prm} {s st : Int} : ∀ (r : List Lay) (i : Nat) (a : Act), (oG ps s st r i a).2.2 ≠ 0 -> (oG ps s st r i a).1 = ([], [])
  | [], i, a, h => absurd rfl h
  | x :: r, i, a, h => by
    unfold oG at h ⊢
    split at h
    · rename_i he; rw [if_pos he]
    · rename_i he; rw [if_neg he]; exact aGA r (i + 1) _ h
theorem aKW {m : Mdl} {ps : List Prm} {x : T3} {s st : Int} (h : (zB m ps x s st).2.2 = 0) : (GM m ps = true /\ dY x = true /\ x.1.length = 4 /\ x.1.drop 1 = inL m /\ inP st 0 1000000 = true) /\ zB m ps x s st = oG ps s st m.2 0 ([x], [[]]) := by
 unfold zB at h ⊢
 split at h
 ·exact absurd (show (1 : Int) = 0 from h) (by decide)
 rename_i h1
 split at h
 ·exact absurd (show (2 : Int) = 0 from h) (by decide)
 rename_i h2
 rw [if_neg h1, if_neg h2]
 have h1 := Bool.eq_false_iff.2 h1
 have h2 := Bool.eq_false_iff.2 h2
 simp only [Bool.or_eq_false_iff, Bool.not_eq_false', decide_eq_true_eq, aKJ] at h1 h2
 exact ⟨⟨h1.1.2, h1.2, by omega, h2.2, h1.1.1⟩, rfl⟩
theorem aLl {m : Mdl} {ps : List Prm} {x : T3} {s st : Int} (h : (zB m ps x s st).2.2 ≠ 0) : (zB m ps x s st).1 = ([], []) := by
 unfold zB at h ⊢
 split at h
 ·rename_i h1; rw [if_pos h1]
 rename_i h1
 split at h
 ·rename_i h2; rw [if_neg h1, if_pos h2]
 rename_i h2
 rw [if_neg h1, if_neg h2]
 exact aGA _ _ _ h
theorem aGC {m : Mdl} {ps : List Prm} {x : T3} {s st : Int} (h : (zB m ps x s st).2.2 = 0) : (zB m ps x s st).1.1.length = m.2.length + 1 /\ TenMay (zB m ps x s st).1.1 := by
 obtain ⟨⟨_, h1, _⟩, e⟩ := aKW h
 rw [e] at h ⊢
 obtain ⟨⟨t, h2, h3⟩, h4, _⟩ := aCV m.2 0 ([x], [[]]) h (fun t ht => by rw [List.mem_singleton.1 ht]; exact h1)
 exact ⟨by rw [h2]; simp [h3], h4⟩
end Go.Proofs.Ytbenbhdagmnapaa

namespace Go.Proofs.Ytbenbhdagmnapaa
open Go.Mach
set_option maxRecDepth 100000
set_option linter.unusedVariables false
end Go.Proofs.Ytbenbhdagmnapaa
