/- What params.May comes to; streams. Laws; no condition. -/
import Derived.Test.YteencpiamangfaaWN
namespace Go.Proofs.Yteencpiamangfaa
open Go.Mach Go.RowKit
set_option maxRecDepth 100000
set_option linter.unusedVariables false
set_option linter.unusedSimpArgs false

def greatB (a : Int) : Bool := decide (a < -1048576) || decide (1048576 < a)
theorem great_v {a : Int} {Q : Bool → Prop} (h : Q (greatB a)) : params_great a Q := ⟨h⟩
theorem anyGreat_v {l : List Int} {Q : Bool → Prop} (hl : l.length ≤ 1000000000000) (h : Q (l.any greatB)) : slices_ContainsFunc_int32_int32__params_great l Q := by
  refine ⟨⟨⟨?_⟩⟩⟩
  refine Loop.range (B := slices_IndexFunc_int32_int32__params_great_n0_B l (l.length : Int) _ _) l.length (fun i => (i : Int)) (fun i => ∀ j, j < i → greatB (l.getD j 0) = false) (fun j hj => absurd hj (by omega)) ?_ ?_
  · intro i hi hI X hX
    unfold slices_IndexFunc_int32_int32__params_great_n0_B
    rw [if_pos (decide_eq_true (show (i : Int) < (l.length : Int) by omega))]
    refine ⟨by omega, great_v ?_⟩
    simp only [Int.toNat_natCast]
    cases hb : greatB (l.getD i 0) with
    | true =>
      rw [if_pos rfl]
      have : l.any greatB = true := by
        rw [List.any_eq_true]
        refine ⟨l[i], List.getElem_mem _, ?_⟩
        rw [List.getD_eq_getElem?_getD, List.getElem?_eq_getElem hi] at hb
        exact hb
      rw [this] at h
      rw [decide_eq_true (show (0 : Int) ≤ (i : Int) by omega)]
      exact h
    | false =>
      rw [if_neg (by simp), wrap_i64 _ (by omega) (by omega)]
      refine hX fun j hj => ?_
      by_cases hji : j = i
      · subst hji; exact hb
      · exact hI j (by omega)
  · intro hI X
    unfold slices_IndexFunc_int32_int32__params_great_n0_B
    rw [if_neg (by simp)]
    have : l.any greatB = false := by
      rw [List.any_eq_false]
      intro x hx
      obtain ⟨j, hj, rfl⟩ := List.mem_iff_getElem.1 hx
      have := hI j hj
      rw [List.getD_eq_getElem?_getD, List.getElem?_eq_getElem hj] at this
      simpa using this
    rw [this] at h
    exact h

def zeroB (p : Prm) : Bool :=
  (((IntKind.i64.wrap ((IntKind.i64.wrap ((IntKind.i64.wrap ((IntKind.i64.wrap ((p.1.1.length : Int) + (p.1.2.2.length : Int))) + (p.2.1.length : Int))) + (p.2.2.1.length : Int))) + (p.2.2.2.2.length : Int))) == 0) && (p.1.2.1 == 0)) && (p.2.2.2.1 == 0)
/-- Weights of a layer: of these lengths. -/
def okP (x : Lay) (dn : List Int × Int) (p : Prm) : Bool :=
  if dn.1 = [] then (zeroB p && !(x.1 == 1)) && !(x.1 == 2)
  else ((((mayF p.1 && mayF p.2.2) && decide (p.1.1 = dn.1)) && decide (p.2.2.1 = [dn.2])) && ((p.2.1.length : Int) == (p.1.2.2.length : Int))) && !(p.2.1.any greatB)
def mayPs (m : Mdl) (l : List Prm) : Bool := (List.range l.length).all fun i => okP (m.2.getD i Lay0) (dimsF m ((i : Int) + 1)) (l.getD i Prm0)
def mayPF (m : Mdl) (l : List Prm) : Bool := (((shapesF m).2.2 == 0) && ((l.length : Int) == (m.2.length : Int))) && mayPs m l

theorem okP_v {x : Lay} {dn : List Int × Int} {p : Prm} {s : Int} {A B : Prop} (hA : okP x dn p = true → A) (hB : okP x dn p = false → B) {nx : Int → Prop} (hn : nx (IntKind.i64.wrap (s + 1)) = A) {K1 : Unit → Prop} (hK : K1 () = B) :
    nz dn.1 (params_zero p (fun (r3 : Bool) => if (((!r3) || (x.1 == 1)) || (x.1 == 2)) = true then K1 () else params_May_n1 s (fun y4 => nx y4)))
      (nq dn.1 (params_zero p (fun (r3 : Bool) => if (((!r3) || (x.1 == 1)) || (x.1 == 2)) = true then K1 () else params_May_n1 s (fun y4 => nx y4)))
        (tensor_May p.1 (fun (r7 : Bool) => jn (fun (v8 : Bool) => jn (fun (v11 : Bool) => jn (fun (v14 : Bool) => jn (fun (v17 : Bool) => if v17 = true then K1 () else params_May_n1 s (fun y20 => nx y20)) (fun J18 => if (v14 || ((p.2.1.length : Int) != (p.1.2.2.length : Int))) = true then J18 true else slices_ContainsFunc_int32_int32__params_great p.2.1 (fun (r19 : Bool) => J18 r19))) (fun J15 => if v11 = true then J15 true else shape_Same p.2.2.1 [dn.2] (fun (r16 : Bool) => J15 (!r16)))) (fun J12 => if v8 = true then J12 true else shape_Same p.1.1 dn.1 (fun (r13 : Bool) => J12 (!r13)))) (fun J9 => if (!r7) = true then J9 true else tensor_May p.2.2 (fun (r10 : Bool) => J9 (!r10)))))) := by
  subst hn hK
  unfold okP at hA hB
  refine ⟨fun e => ?_, fun e => ⟨fun e2 => absurd e2 e, mayT_v ?_⟩⟩
  · rw [if_pos e] at hA hB
    refine ⟨?_⟩
    show if (((!zeroB p) || (x.1 == 1)) || (x.1 == 2)) = true then K1 () else _
    cases h1 : ((zeroB p && !(x.1 == 1)) && !(x.1 == 2)) with
    | true =>
      have := hA h1
      rw [if_neg (by simpa [and_assoc] using h1)]
      exact ⟨this⟩
    | false =>
      rw [if_pos]
      · exact hB h1
      · revert h1
        cases zeroB p <;> cases (x.1 == 1) <;> cases (x.1 == 2) <;> simp
  · rw [if_neg e] at hA hB
    unfold jn
    dsimp only
    have no : (((((mayF p.1 && mayF p.2.2) && decide (p.1.1 = dn.1)) && decide (p.2.2.1 = [dn.2])) && ((p.2.1.length : Int) == (p.1.2.2.length : Int))) && !(p.2.1.any greatB)) = false → K1 () := hB
    cases m1 : mayF p.1 with
    | false =>
      rw [m1] at no
      simp only [Bool.not_false, Bool.true_or, if_true]
      exact no (by simp)
    | true =>
      rw [if_neg (by simp)]
      refine mayT_v ?_
      cases m2 : mayF p.2.2 with
      | false =>
        rw [m2] at no
        simp only [Bool.not_false, Bool.true_or, if_true]
        exact no (by simp)
      | true =>
        rw [if_neg (by simp)]
        obtain ⟨l1, l2, _⟩ := mayF_lens m1
        obtain ⟨k1, k2, _⟩ := mayF_lens m2
        refine same_v (by omega) ?_
        by_cases e1 : p.1.1 = dn.1
        rotate_left
        · rw [decide_eq_false e1]
          simp only [Bool.not_false, Bool.true_or, if_true]
          exact no (by simp [e1])
        rw [decide_eq_true e1, if_neg (by simp)]
        refine same_v (by omega) ?_
        by_cases e2 : p.2.2.1 = [dn.2]
        rotate_left
        · rw [decide_eq_false e2]
          simp only [Bool.not_false, Bool.true_or, if_true]
          exact no (by simp [e2])
        rw [decide_eq_true e2]
        by_cases e3 : p.2.1.length = p.1.2.2.length
        rotate_left
        · rw [if_pos (by simp; omega), if_pos rfl]
          refine no ?_
          have : ((p.2.1.length : Int) == (p.1.2.2.length : Int)) = false := by simp; omega
          rw [this]
          simp
        rw [if_neg (by simp [e3])]
        refine anyGreat_v (by omega) ?_
        cases hg : p.2.1.any greatB with
        | true =>
          rw [if_pos rfl]
          exact no (by rw [hg]; simp)
        | false =>
          rw [if_neg (by simp)]
          refine ⟨hA ?_⟩
          rw [m1, m2, decide_eq_true e1, decide_eq_true e2, hg]
          simp [e3]

theorem mayP_v {m : Mdl} {l : List Prm} {Q : Bool → Prop} (hl : m.2.length ≤ 1000000000000) (h : Q (mayPF m l)) : params_May m l Q := by
  refine ⟨shapes_v hl ?_⟩
  unfold mayPF at h
  show if (((shapesF m).2.2 != 0) || ((l.length : Int) != (m.2.length : Int))) = true then Q false else _
  by_cases h1 : (shapesF m).2.2 = 0 ∧ l.length = m.2.length
  rotate_left
  · have e : (((shapesF m).2.2 == 0) && ((l.length : Int) == (m.2.length : Int))) = false := by
      rw [Bool.eq_false_iff]
      intro hh
      simp only [Bool.and_eq_true, beq_iff_eq] at hh
      exact h1 ⟨hh.1, by omega⟩
    rw [e] at h
    rw [if_pos]
    · exact h
    · simp only [Bool.or_eq_true, bne_iff_ne, ne_eq]
      by_cases e1 : (shapesF m).2.2 = 0
      · right; intro e2; exact h1 ⟨e1, by omega⟩
      · exact .inl e1
  have e : (((shapesF m).2.2 == 0) && ((l.length : Int) == (m.2.length : Int))) = true := by simp [h1.1, h1.2]
  rw [e, Bool.true_and] at h
  rw [if_neg (by simp [h1.1, h1.2])]
  obtain ⟨hm, hok⟩ := shapesF_ok h1.1
  have hlen := (mayMF_inv hm).2.1
  refine ⟨?_⟩
  refine Loop.range (B := params_May_n0_B l (l.length : Int) m.1.1 m.1.2.1 m.1.2.2 m.2 (fun _ => Q true) (fun _ => Q false)) l.length (fun i => (i : Int)) (fun i => ∀ j, j < i → okP (m.2.getD j Lay0) (dimsF m ((j : Int) + 1)) (l.getD j Prm0) = true) (fun j hj => absurd hj (by omega)) ?_ ?_
  · intro i hi hI X hX
    unfold params_May_n0_B
    rw [if_pos (decide_eq_true (show (i : Int) < (l.length : Int) by omega))]
    simp only [Int.toNat_natCast]
    have hw : IntKind.i64.wrap ((i : Int) + 1) = (i : Int) + 1 := wrap_i64 _ (by omega) (by omega)
    refine ⟨by omega, ?_⟩
    have hq : ∀ d : List Int × Int, d = dimsF m ((i : Int) + 1) → nz d.1 (ck ((0 : Int) ≤ (i : Int) ∧ (i : Int) < (m.2.length : Int)) (params_zero (l.getD i Prm0) (fun (r3 : Bool) => if (((!r3) || ((m.2.getD i Lay0).1 == 1)) || ((m.2.getD i Lay0).1 == 2)) = true then Q false else params_May_n1 (i : Int) (fun y4 => X y4))))
      (nq d.1 (ck ((0 : Int) ≤ (i : Int) ∧ (i : Int) < (m.2.length : Int)) (params_zero (l.getD i Prm0) (fun (r3 : Bool) => if (((!r3) || ((m.2.getD i Lay0).1 == 1)) || ((m.2.getD i Lay0).1 == 2)) = true then Q false else params_May_n1 (i : Int) (fun y4 => X y4))))
        (tensor_May (l.getD i Prm0).1 (fun (r7 : Bool) => jn (fun (v8 : Bool) => jn (fun (v11 : Bool) => jn (fun (v14 : Bool) => jn (fun (v17 : Bool) => if v17 = true then Q false else params_May_n1 (i : Int) (fun y20 => X y20)) (fun J18 => if (v14 || (((l.getD i Prm0).2.1.length : Int) != ((l.getD i Prm0).1.2.2.length : Int))) = true then J18 true else slices_ContainsFunc_int32_int32__params_great (l.getD i Prm0).2.1 (fun (r19 : Bool) => J18 r19))) (fun J15 => if v11 = true then J15 true else shape_Same (l.getD i Prm0).2.2.1 [d.2] (fun (r16 : Bool) => J15 (!r16)))) (fun J12 => if v8 = true then J12 true else shape_Same (l.getD i Prm0).1.1 d.1 (fun (r13 : Bool) => J12 (!r13)))) (fun J9 => if (!r7) = true then J9 true else tensor_May (l.getD i Prm0).2.2 (fun (r10 : Bool) => J9 (!r10)))))) := by
      intro d hd
      have key := okP_v (x := m.2.getD i Lay0) (dn := d) (p := l.getD i Prm0) (s := (i : Int)) (A := X (IntKind.i64.wrap ((i : Int) + 1))) (B := Q false) (nx := X) (K1 := fun _ => Q false) (fun hk => by
        rw [hw]
        refine hX fun j hj => ?_
        by_cases hji : j = i
        · subst hji; rw [← hd]; exact hk
        · exact hI j (by omega)) (fun hk => by
        have : mayPs m l = false := by
          unfold mayPs
          rw [List.all_eq_false]
          exact ⟨i, List.mem_range.2 hi, by rw [← hd, hk]; simp⟩
        rw [this] at h
        exact h) rfl rfl
      exact ⟨fun e => ⟨by omega, key.1 e⟩, fun e => ⟨fun e2 => absurd e2 e, (key.2 e).2⟩⟩
    rw [hw]
    exact dims_v hl (fun _ => hq _ rfl) (fun _ => hq _ rfl)
  · intro hI X
    unfold params_May_n0_B
    rw [if_neg (by simp)]
    have : mayPs m l = true := by
      unfold mayPs
      rw [List.all_eq_true]
      intro j hj
      exact hI j (List.mem_range.1 hj)
    rw [this] at h
    exact h

/-! ### Streams -/
theorem fin_v {a lo hi : Int} {Q : Bool → Prop} (h : Q (inP a lo hi)) : forward_in a lo hi Q := ⟨h⟩
def strF (a b c : Int) : Int := if ((inP a 0 1000000 && inP b 0 12) && inP c 0 15) = true then a * 1024 + b * 16 + c else 0
theorem str_v {a b c : Int} {Q : Int → Prop} (h : Q (strF a b c)) : forward_Stream a b c Q := by
  refine ⟨fin_v ?_⟩
  unfold jn
  dsimp only
  unfold strF at h
  cases h1 : inP a 0 1000000 with
  | false =>
    rw [h1] at h
    simp only [Bool.not_false, if_true]
    exact h
  | true =>
    rw [h1] at h
    rw [if_neg (by simp)]
    refine fin_v ?_
    cases h2 : inP b 0 12 with
    | false =>
      rw [h2] at h
      simp only [Bool.not_false, if_true]
      exact h
    | true =>
      rw [h2] at h
      rw [if_neg (by simp)]
      refine fin_v ?_
      cases h3 : inP c 0 15 with
      | false =>
        rw [h3] at h
        rw [if_pos (by rfl)]
        exact h
      | true =>
        rw [h3, if_pos (by rfl)] at h
        rw [if_neg (by simp)]
        unfold inP at h1 h2 h3
        simp only [Bool.and_eq_true, decide_eq_true_eq] at h1 h2 h3
        rw [wrap_i64 (a * 1024) (by omega) (by omega), wrap_i64 (b * 16) (by omega) (by omega), wrap_i64 (a * 1024 + b * 16) (by omega) (by omega), wrap_i64 _ (by omega) (by omega)]
        have : IntKind.u64.wrap (a * 1024 + b * 16 + c) = a * 1024 + b * 16 + c := by
          simp only [IntKind.wrap, IntKind.bits, IntKind.signed]
          simp
          omega
        rw [this]
        exact h

end Go.Proofs.Yteencpiamangfaa
