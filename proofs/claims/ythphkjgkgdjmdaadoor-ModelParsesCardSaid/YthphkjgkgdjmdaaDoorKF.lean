/- The reference's nets, their texts (ModelForms). No condition. -/
import Derived.Test.YthphkjgkgdjmdaaDoorKX
import Derived.Test.YthphkjgkgdjmdaaDoorMR
namespace Go.Proofs.YthphkjgkgdjmdaaDoor
open Go.Mach
set_option maxRecDepth 100000
set_option linter.unusedVariables false
set_option linter.unusedSimpArgs false

theorem and_v {b c : Bool} {Q K : Bool → Prop} {G : (Bool → Prop) → Prop} (hG : (b = true → ∀ P : Bool → Prop, P c → G P)) (hK : ∀ v, v = (b && c) → K v) (hQ : Q = K) : jn (fun v => Q v) (fun J => if b = true then G J else J false) := by
  subst hQ
  cases b with
  | true => show (if true = true then G (fun v => Q v) else Q false); rw [if_pos rfl]; exact hG rfl _ (hK _ (by simp))
  | false => exact hK _ rfl
/-- One more condition, looked at only where none of the others has failed. -/
theorem orb_v {b c : Bool} {Q K : Bool → Prop} {G : (Bool → Prop) → Prop} (hG : b = false → ∀ P : Bool → Prop, P c → G P) (hK : ∀ v, v = (b || c) → K v) (hQ : Q = K) : jn (fun v => Q v) (fun J => if b = true then J true else G J) := by
  subst hQ
  cases b with
  | true => exact hK _ rfl
  | false => show (if false = true then Q true else G (fun v => Q v)); rw [if_neg (by simp)]; exact hG rfl _ (hK _ (by simp))

theorem rin_v {a lo hi : Int} {Q : Bool → Prop} (h : Q (inP a lo hi)) : pedagogueref10_in a lo hi Q := ⟨h⟩
theorem rmayIn_v {a : Int × Int × Int} {Q : Bool → Prop} (h : Q (entersB a)) : pedagogueref10_mayIn a Q := by
  refine ⟨rin_v ?_⟩
  unfold entersB at h
  refine and_v (c := inP a.2.1 1 16) (fun _ P hP => rin_v hP) (fun v e => ?_) rfl
  refine and_v (c := inP a.2.2 1 16) (fun _ P hP => rin_v hP) (fun v2 e2 => ?_) rfl
  rw [e2, e]
  exact h
theorem rn0_v {K : Unit → Prop} (h : K ()) : pedagogueref10_mayLayer_n0 K := ⟨h⟩
theorem rmayL_v {x : Lay} {n : Int} {Q : Bool → Prop} (h : Q (mayLF x n)) : pedagogueref10_mayLayer x n Q := by
  obtain ⟨kd, ou, k, st, pd, fr, fz⟩ := x
  refine ⟨?_⟩
  dsimp only
  unfold mayLF at h
  dsimp only at h
  have fin : ∀ {b : Bool} {k' st' fr' : Int}, (b && ((kd == kd) && ((ou == 0) && ((k == k') && ((st == st') && ((pd == 0) && ((fr == fr') && ((fz == false) && (true)))))))))
      = (b && ((ou == 0) && ((k == k') && ((st == st') && ((pd == 0) && ((fr == fr') && (fz == false))))))) := by
    intro b k' st' fr'
    simp
  by_cases h1 : kd = 1
  · rw [if_pos h1] at h
    rw [if_pos (by simpa using h1)]
    refine rin_v (rn0_v (cast (congrArg Q ?_) h))
    simp
  rw [if_neg h1] at h
  rw [if_neg (by simpa using h1)]
  by_cases h2 : kd = 2
  · rw [if_pos h2] at h
    rw [if_pos (by simpa using h2)]
    refine rin_v ?_
    refine and_v (c := inP k 1 5) (fun _ P hP => rin_v hP) (fun v e => ?_) rfl
    refine and_v (c := inP st 1 4) (fun _ P hP => rin_v hP) (fun v2 e2 => ?_) rfl
    refine and_v (c := inP pd 0 (IntKind.i64.wrap (k - 1))) (fun _ P hP => rin_v hP) (fun v3 e3 => ?_) rfl
    refine rn0_v (cast (congrArg Q ?_) h)
    rw [e3, e2, e]
    unfold winB
    simp [Bool.and_assoc]
  rw [if_neg h2] at h
  rw [if_neg (by simpa using h2)]
  have win : ∀ {K0 : Bool × Int × Int × Int → Prop} {K1 : Unit → Prop} {x1 : Bool}, K0 (winB (kd, ou, k, st, pd, fr, fz), k, st, 0) → pedagogueref10_mayLayer_n1 n x1 kd true k st fr 0 0 0 K0 K1 := by
    intro K0 K1 x1 hK
    refine ⟨?_⟩
    rw [if_pos rfl]
    refine rin_v ?_
    refine and_v (c := inP st 1 4) (fun _ P hP => rin_v hP) (fun v e => ?_) rfl
    rw [e]
    exact hK
  by_cases h3 : kd = 3
  · rw [if_pos (.inl h3)] at h
    rw [if_pos (by simpa using h3)]
    have e3 : (kd == 3) = true := by simpa using h3
    rw [e3]
    refine win (rn0_v (cast (congrArg Q ?_) h))
    rw [fin]
    simp
  rw [if_neg (by simpa using h3)]
  by_cases h4 : kd = 4
  · rw [if_pos (.inr h4)] at h
    have e4 : (kd == 4) = true := by simpa using h4
    rw [e4]
    refine win (rn0_v (cast (congrArg Q ?_) h))
    rw [fin]
    simp
  rw [if_neg (by omega)] at h
  have e4 : (kd == 4) = false := by simpa using h4
  rw [e4]
  refine ⟨?_⟩
  rw [if_neg (by simp)]
  by_cases h5 : kd = 5
  · rw [if_pos (.inl h5)] at h
    have e5 : (kd == 5) = true := by simpa using h5
    rw [if_pos e5, e5]
    refine ⟨?_⟩
    rw [if_pos rfl]
    refine rn0_v (cast (congrArg Q ?_) h)
    rw [fin]
    simp
  rw [if_neg (by simpa using h5)]
  by_cases h6 : kd = 6
  · rw [if_pos (.inr h6)] at h
    have e6 : (kd == 6) = true := by simpa using h6
    rw [e6]
    refine ⟨?_⟩
    rw [if_pos rfl]
    refine rn0_v (cast (congrArg Q ?_) h)
    rw [fin]
    simp
  rw [if_neg (by omega)] at h
  have e6 : (kd == 6) = false := by simpa using h6
  rw [e6]
  refine ⟨?_⟩
  rw [if_neg (by simp)]
  by_cases h7 : kd = 7
  · rw [if_pos h7] at h
    rw [if_pos (by simpa using h7)]
    refine rin_v (rn0_v (cast (congrArg Q ?_) h))
    rw [fin]
    simp
  · rw [if_neg h7] at h
    rw [if_neg (by simpa using h7)]
    exact h

theorem rmayM_v {m : Mdl} {Q : Bool → Prop} (hl : m.2.length ≤ 10000000000000) (h : Q (mayMF m)) : pedagogueref10_MayModel m Q := by
  refine ⟨rmayIn_v ?_⟩
  unfold mayMF at h
  refine orb_v (c := !inP (m.2.length : Int) 1 12) (fun _ P hP => rin_v hP) (fun v e => ?_) rfl
  cases v with
  | true =>
    rw [if_pos rfl]
    have e : (!entersB m.1 || !inP (m.2.length : Int) 1 12) = true := e.symm
    have : (entersB m.1 && inP (m.2.length : Int) 1 12) = false := by
      revert e
      cases entersB m.1 <;> cases inP (m.2.length : Int) 1 12 <;> simp
    rw [this] at h
    exact h
  | false =>
    rw [if_neg (by simp)]
    have e : (!entersB m.1 || !inP (m.2.length : Int) 1 12) = false := e.symm
    have : (entersB m.1 && inP (m.2.length : Int) 1 12) = true := by
      revert e
      cases entersB m.1 <;> cases inP (m.2.length : Int) 1 12 <;> simp
    rw [this, Bool.true_and] at h
    refine ⟨?_⟩
    refine Loop.range (B := pedagogueref10_MayModel_n0_B m.2 (m.2.length : Int) (fun _ => Q true) (fun _ => Q false)) m.2.length (fun i => (i : Int)) (fun i => ∀ j, j < i → mayLF (m.2.getD j Lay0) j = true) (fun j hj => absurd hj (by omega)) ?_ ?_
    · intro i hi hI X hX
      unfold pedagogueref10_MayModel_n0_B
      rw [if_pos (decide_eq_true (show (i : Int) < (m.2.length : Int) by omega))]
      refine ⟨by omega, rmayL_v ?_⟩
      simp only [Int.toNat_natCast]
      show if (!mayLF (m.2.getD i Lay0) i) = true then _ else _
      cases hb : mayLF (m.2.getD i Lay0) i with
      | true =>
        rw [if_neg (by simp), wrap_i64 _ (by omega) (by omega)]
        refine hX fun j hj => ?_
        by_cases hji : j = i
        · subst hji; exact hb
        · exact hI j (by omega)
      | false =>
        rw [if_pos (by rfl)]
        have : mayLs m.2 = false := by
          unfold mayLs
          rw [List.all_eq_false]
          exact ⟨i, List.mem_range.2 hi, by rw [hb]; simp⟩
        rw [this] at h
        exact h
    · intro hI X
      unfold pedagogueref10_MayModel_n0_B
      rw [if_neg (by simp)]
      have : mayLs m.2 = true := by
        unfold mayLs
        rw [List.all_eq_true]
        intro j hj
        exact hI j (List.mem_range.1 hj)
      rw [this] at h
      exact h

theorem rnumbers_v {l : List Int} {Q : ByteArray → Prop} (hl : l.length ≤ 100) (hn : ∀ n ∈ l, I64 n) (h : Q (B (numsT l))) : pedagogueref10_numbers l Q := by
  refine ⟨⟨?_⟩⟩
  have e0 : ((⟨#[]⟩ : ByteArray), (0 : Int)) = (B (numsT (l.take 0)), ((0 : Nat) : Int)) := by simp [numsT]; rfl
  rw [e0]
  refine Loop.range (B := pedagogueref10_numbers_n0_B l (l.length : Int) (fun y2 => Q y2)) l.length (fun i => (B (numsT (l.take i)), (i : Int))) (fun i => True) trivial ?_ ?_
  · intro i hi _ X hX
    unfold pedagogueref10_numbers_n0_B
    rw [if_pos (decide_eq_true (show (i : Int) < (l.length : Int) by omega))]
    refine ⟨by simp only; omega, ?_⟩
    dsimp only
    rw [Int.toNat_natCast]
    have hm : l.getD i 0 ∈ l := by
      rw [List.getD_eq_getElem?_getD, List.getElem?_eq_getElem hi]
      exact List.getElem_mem hi
    have h1 := hn _ hm
    have h2 := Lib.itoa_length_le _ h1.1 h1.2
    have h3 := numsT_len (l.take i) (fun n hx => hn n (List.mem_of_mem_take hx))
    rw [List.length_take] at h3
    refine ⟨h1, ?_⟩
    have e : itoaS (l.getD i 0) = B (Lib.itoa (l.getD i 0)) := rfl
    have e32 : (⟨#[32]⟩ : ByteArray) = B [32] := rfl
    rw [e]
    dsimp only
    rw [e32, B_app, B_app]
    refine ⟨by rw [B_size, B_size]; simp only [List.length_cons, List.length_nil]; omega, ?_⟩
    refine ⟨by rw [B_size, B_size, List.length_append]; simp only [List.length_cons, List.length_nil]; omega, ?_⟩
    rw [wrap_i64 _ (by omega) (by omega)]
    have := hX trivial
    have e2 : numsT (l.take (i + 1)) = numsT (l.take i) ++ ([32] ++ Lib.itoa (l.getD i 0)) := by
      have eg : l.getD i 0 = l[i] := by rw [List.getD_eq_getElem?_getD, List.getElem?_eq_getElem hi]; rfl
      unfold numsT
      rw [eg, List.take_add_one, List.getElem?_eq_getElem hi, List.flatMap_append]
      simp only [Option.toList_some, List.flatMap_cons, List.flatMap_nil, List.append_nil]
      rfl
    rw [e2] at this
    exact this
  · intro _ X
    unfold pedagogueref10_numbers_n0_B
    rw [if_neg (by simp)]
    rw [List.take_length]
    exact h

theorem rend_v {b : Bytes} {fz : Bool} {K : ByteArray → Prop} (hb : b.length ≤ 1000) (h : K (B ((b ++ (if fz = true then wFz else [])) ++ [10]))) : pedagogueref10_line_n0 (B b) fz K := by
  have e10 : (⟨#[10]⟩ : ByteArray) = B [10] := rfl
  have ef : sc_0481102b = B wFz := rfl
  have l8 : wFz.length = 7 := rfl
  refine ⟨?_⟩
  cases fz with
  | true =>
    rw [if_pos rfl] at h ⊢
    rw [ef, B_app]
    refine ⟨by rw [B_size, B_size]; omega, ⟨?_⟩⟩
    rw [e10, B_app]
    refine ⟨by rw [B_size, B_size, List.length_append]; simp only [List.length_cons, List.length_nil]; omega, h⟩
  | false =>
    rw [if_neg (by simp)] at h ⊢
    rw [List.append_nil] at h
    refine ⟨?_⟩
    rw [e10, B_app]
    exact ⟨by rw [B_size, B_size]; simp only [List.length_cons, List.length_nil]; omega, h⟩
theorem rline_v {x : Lay} {Q : ByteArray → Prop} (hx : LaySm x) (h : Q (B (lineT x))) : pedagogueref10_line x Q := by
  obtain ⟨hk, h1, h2, h3, h4, h5⟩ := hx
  have s1 : ∀ n ∈ [x.2.1], I64 n := by simpa using h1.i64
  have s2 : ∀ n ∈ [x.2.1, x.2.2.1, x.2.2.2.1, x.2.2.2.2.1], I64 n := by simp; exact ⟨h1.i64, h2.i64, h3.i64, h4.i64⟩
  have s3 : ∀ n ∈ [x.2.2.1, x.2.2.2.1], I64 n := by simp; exact ⟨h2.i64, h3.i64⟩
  have s4 : ∀ n ∈ [x.2.2.2.2.2.1], I64 n := by simpa using h5.i64
  have e1 := numsT_len _ s1
  have e2 := numsT_len _ s2
  have e3 := numsT_len _ s3
  have e4 := numsT_len _ s4
  simp only [List.length_cons, List.length_nil] at e1 e2 e3 e4
  unfold lineT bodyT at h
  refine ⟨?_⟩
  rw [show sc_d6a98598 = B wDense from rfl, show (⟨#[99, 111, 110, 118]⟩ : ByteArray) = B wConv from rfl, show (⟨#[109, 97, 120]⟩ : ByteArray) = B wMax from rfl, show (⟨#[97, 118, 103]⟩ : ByteArray) = B wAvg from rfl,
      show (⟨#[114, 101, 108, 117]⟩ : ByteArray) = B wRelu from rfl, show (⟨#[102, 108, 97, 116]⟩ : ByteArray) = B wFlat from rfl, show (⟨#[97, 100, 100]⟩ : ByteArray) = B wAdd from rfl]
  by_cases k1 : x.1 = 1
  · rw [if_pos k1] at h
    rw [if_pos (by simp [k1])]
    refine rnumbers_v (by simp) s1 ?_
    have hw : wDense.length = 5 := rfl
    rw [B_app]
    exact ⟨by rw [B_size, B_size]; omega, rend_v (by rw [List.length_append]; omega) h⟩
  rw [if_neg k1] at h
  rw [if_neg (by simp [k1])]
  by_cases k2 : x.1 = 2
  · rw [if_pos k2] at h
    rw [if_pos (by simp [k2])]
    refine rnumbers_v (by simp) s2 ?_
    have hw : wConv.length = 4 := rfl
    rw [B_app]
    exact ⟨by rw [B_size, B_size]; omega, rend_v (by rw [List.length_append]; omega) h⟩
  rw [if_neg k2] at h
  rw [if_neg (by simp [k2])]
  by_cases k3 : x.1 = 3
  · rw [if_pos k3] at h
    rw [if_pos (by simp [k3])]
    refine rnumbers_v (by simp) s3 ?_
    have hw : wMax.length = 3 := rfl
    rw [B_app]
    exact ⟨by rw [B_size, B_size]; omega, rend_v (by rw [List.length_append]; omega) h⟩
  rw [if_neg k3] at h
  rw [if_neg (by simp [k3])]
  by_cases k4 : x.1 = 4
  · rw [if_pos k4] at h
    rw [if_pos (by simp [k4])]
    refine rnumbers_v (by simp) s3 ?_
    have hw : wAvg.length = 3 := rfl
    rw [B_app]
    exact ⟨by rw [B_size, B_size]; omega, rend_v (by rw [List.length_append]; omega) h⟩
  rw [if_neg k4] at h
  rw [if_neg (by simp [k4])]
  by_cases k5 : x.1 = 5
  · rw [if_pos k5] at h
    rw [if_pos (by simp [k5])]
    exact rend_v (by decide) h
  rw [if_neg k5] at h
  rw [if_neg (by simp [k5])]
  by_cases k6 : x.1 = 6
  · rw [if_pos k6] at h
    rw [if_pos (by simp [k6])]
    exact rend_v (by decide) h
  rw [if_neg k6] at h
  rw [if_neg (by simp [k6])]
  have k7 : x.1 = 7 := by omega
  rw [if_pos k7] at h
  refine rnumbers_v (by simp) s4 ?_
  have hw : wAdd.length = 3 := rfl
  rw [B_app]
  exact ⟨by rw [B_size, B_size]; omega, rend_v (by rw [List.length_append]; omega) h⟩

theorem rtextM_v {m : Mdl} {Q : ByteArray × Int → Prop} (hl : m.2.length ≤ 10000000000000) (h : Q (B (textF m).1, (textF m).2)) : pedagogueref10_ModelText m Q := by
  refine ⟨rmayM_v hl ?_⟩
  unfold textF at h
  cases hm : mayMF m with
  | false =>
    rw [hm] at h
    rw [if_pos (by rfl)]
    exact h
  | true =>
    rw [hm, if_pos rfl] at h
    rw [if_neg (by simp)]
    obtain ⟨he, hlen, _, hsm⟩ := lay_all hm
    obtain ⟨s1, s2, s3⟩ := ent_sm he
    have hs : ∀ n ∈ [m.1.1, m.1.2.1, m.1.2.2], I64 n := by simp; exact ⟨s1.i64, s2.i64, s3.i64⟩
    have hnl := numsT_len _ hs
    simp only [List.length_cons, List.length_nil] at hnl
    have l1 : wIn.length = 2 := rfl
    rw [show (⟨#[105, 110]⟩ : ByteArray) = B wIn from rfl]
    refine rnumbers_v (by simp) hs ?_
    rw [B_app]
    refine ⟨by rw [B_size, B_size]; omega, ?_⟩
    rw [show (⟨#[10]⟩ : ByteArray) = B [10] from rfl, B_app]
    refine ⟨by rw [B_size, B_size, List.length_append]; simp only [List.length_cons, List.length_nil]; omega, ⟨?_⟩⟩
    have e0 : (B ((wIn ++ numsT [m.1.1, m.1.2.1, m.1.2.2]) ++ [10]), (0 : Int)) = (B (headT m.1 ++ (m.2.take 0).flatMap lineT), ((0 : Nat) : Int)) := by simp [headT]
    rw [e0]
    refine Loop.range (B := pedagogueref10_ModelText_n0_B m.2 (m.2.length : Int) (fun y4 => Q (y4, 0))) m.2.length (fun i => (B (headT m.1 ++ (m.2.take i).flatMap lineT), (i : Int))) (fun i => True) trivial ?_ ?_
    · intro i hi _ X hX
      unfold pedagogueref10_ModelText_n0_B
      rw [if_pos (decide_eq_true (show (i : Int) < (m.2.length : Int) by omega))]
      refine ⟨by simp only; omega, ?_⟩
      dsimp only
      rw [Int.toNat_natCast]
      have hx : m.2.getD i Lay0 ∈ m.2 := by
        rw [List.getD_eq_getElem?_getD, List.getElem?_eq_getElem hi]
        exact List.getElem_mem hi
      have hb := body_len (hsm _ hx)
      have hf := flat_len (l := m.2.take i) (fun y hy => hsm y (List.mem_of_mem_take hy))
      rw [List.length_take] at hf
      refine rline_v (hsm _ hx) ?_
      rw [B_app]
      have hL1 : (lineT (m.2.getD i Lay0)).length ≤ 111 := by
        unfold lineT
        rw [List.length_append]
        simp only [List.length_cons, List.length_nil]
        omega
      have hH : (headT m.1).length ≤ 69 := by
        unfold headT
        rw [List.length_append, List.length_append]
        simp only [List.length_cons, List.length_nil]
        omega
      refine ⟨by
        rw [B_size, B_size, List.length_append]
        show _ + (lineT (m.2.getD i Lay0)).length ≤ _
        omega, ?_⟩
      rw [wrap_i64 _ (by omega) (by omega)]
      have := hX trivial
      have e2 : (m.2.take (i + 1)).flatMap lineT = (m.2.take i).flatMap lineT ++ lineT (m.2.getD i Lay0) := by
        have eg : m.2.getD i Lay0 = m.2[i] := by rw [List.getD_eq_getElem?_getD, List.getElem?_eq_getElem hi]; rfl
        rw [eg, List.take_add_one, List.getElem?_eq_getElem hi, List.flatMap_append]
        simp only [Option.toList_some, List.flatMap_cons, List.flatMap_nil, List.append_nil]
      rw [e2, ← List.append_assoc] at this
      exact this
    · intro _ X
      unfold pedagogueref10_ModelText_n0_B
      rw [if_neg (by simp)]
      rw [List.take_length]
      exact h

theorem rsameL_v {a b : List Lay} {Q : Bool → Prop} (hl : a.length ≤ 10000000000000) (hn : a.length = b.length) (h : Q (decide (a = b))) : pedagogueref10_SameModel_n0 (a.length : Int) a b (fun _ => Q true) (fun _ => Q false) 0 := by
  · skip
    refine ⟨?_⟩
    refine Loop.range (B := pedagogueref10_SameModel_n0_B (a.length : Int) a b (fun _ => Q true) (fun _ => Q false)) a.length (fun i => (i : Int)) (fun i => ∀ j, j < i → a.getD j Lay0 = b.getD j Lay0) (fun j hj => absurd hj (by omega)) ?_ ?_
    · intro i hi hI X hX
      unfold pedagogueref10_SameModel_n0_B
      rw [if_pos (decide_eq_true (show (i : Int) < (a.length : Int) by omega))]
      refine ⟨by omega, by omega, ?_⟩
      simp only [Int.toNat_natCast]
      rw [show _ = decide (a.getD i Lay0 = b.getD i Lay0) from layeq (a.getD i Lay0) (b.getD i Lay0)]
      by_cases he : a.getD i Lay0 = b.getD i Lay0
      · rw [if_neg (by simp only [decide_eq_true he]; decide), wrap_i64 _ (by omega) (by omega)]
        refine hX fun j hj => ?_
        by_cases hji : j = i
        · subst hji; exact he
        · exact hI j (by omega)
      · rw [if_pos (by simp only [decide_eq_false he]; decide)]
        rw [decide_eq_false (fun e => he (by rw [e]))] at h
        exact h
    · intro hI X
      unfold pedagogueref10_SameModel_n0_B
      rw [if_neg (by simp)]
      rw [decide_eq_true (list_ext_getD (d := Lay0) hn hI)] at h
      exact h
theorem rsame_v {a b : Mdl} {Q : Bool → Prop} (hl : a.2.length ≤ 10000000000000) (h : Q (decide (a = b))) : pedagogueref10_SameModel a b Q := by
  refine ⟨?_⟩
  rw [ineq]
  by_cases hi : a.1 = b.1
  · by_cases hn : a.2.length = b.2.length
    · rw [if_neg (by simp [hi, hn])]
      refine rsameL_v (Q := Q) hl hn ?_
      have : decide (a.2 = b.2) = decide (a = b) := by
        rw [Bool.eq_iff_iff, decide_eq_true_iff, decide_eq_true_iff]
        exact ⟨fun e => Prod.ext hi e, fun e => by rw [e]⟩
      rw [this]
      exact h
    · rw [if_pos (by simp; right; omega)]
      rw [decide_eq_false (fun e => hn (by rw [e]))] at h
      exact h
  · rw [if_pos (by simp [hi])]
    rw [decide_eq_false (fun e => hi (by rw [e]))] at h
    exact h

theorem forms_law {a b : Mdl} {Q : Bool → Prop} (hq : Q true) : pedagoguelaw15_ModelForms a b Q := by
  refine ⟨?_⟩
  by_cases hb : ((decide (40 < (a.2.length : Int))) || (decide (40 < (b.2.length : Int)))) = true
  · rw [if_pos hb]; exact awake_v hq
  rw [if_neg hb]
  have hl : a.2.length ≤ 10000000000000 := by simp at hb; omega
  refine textM_v hl (rtextM_v hl (mayM_v hl (rmayM_v hl ?_)))
  unfold jn
  dsimp only
  rw [tst, if_pos (by simp)]
  refine msame_v hl (rsame_v hl ?_)
  rw [if_pos (by simp)]
  exact awake_v hq

end Go.Proofs.YthphkjgkgdjmdaaDoor
