/- What the reference's Conv and ConvInput answer. Laws; no condition. -/
/- What the reference's ConvInput and ConvBias answer. Laws; no condition. -/
/- What the reference's ConvWeight answers; ConvForms. Laws; no condition. -/
import Derived.Test.YtmleeffinagncaaQH
namespace Go.Proofs.Ytmleeffinagncaa
open Go.Mach Go.RowKit
set_option maxRecDepth 100000
set_option linter.unusedVariables false
set_option linter.unusedSimpArgs false

theorem ix5 {m C j H V a : Nat} (h : (m * C + j) * (H * V) + a ≤ 100000000) (hp : 1 ≤ H) (hv : 1 ≤ V) : IntKind.i64.wrap (IntKind.i64.wrap (IntKind.i64.wrap (IntKind.i64.wrap (IntKind.i64.wrap ((m : Int) * C) + (j : Int)) * H) * V) + (a : Int)) = (((m * C + j) * (H * V) + a : Nat) : Int) := by
  have e : (m * C + j) * (H * V) = (m * C + j) * H * V := by rw [Nat.mul_assoc]
  have g1 : m * C + j ≤ (m * C + j) * H := Nat.le_mul_of_pos_right _ hp
  have g2 : (m * C + j) * H ≤ (m * C + j) * H * V := Nat.le_mul_of_pos_right _ hv
  rw [ix (r := m) (n := C) (i := j) (by omega), mulw (r := m * C + j) (n := H) (by omega), ix (r := (m * C + j) * H) (n := V) (i := a) (by omega), e]
theorem rc_v {C H V K m o n O : Nat} {p0 q0 : Int} {xd wd : List Int} {a r q : Nat} {t : Int} {K0 : Int → Prop} (hx : xd.length = n * C * (H * V)) (hw : wd.length = O * C * K * K) (bx : n * C * (H * V) ≤ 8192) (bw : O * C * K * K ≤ 8192) (ax : All8 xd) (aw : All8 wd) (hm : m < n) (ho : o < O) (ha : a < H * V) (hr : r < K) (hq : q < K) (hC : C ≤ 8192) (hH : 1 ≤ H) (hV : 1 ≤ V)
    (h : K0 (IntKind.i64.wrap (t + sumTo (fun c => fwdG xd wd C (H * V) K m o c ((a : Int), (r : Int), (q : Int))) C))) : pedagogueref10_Conv_n3 C H V K C xd wd [(m : Int), o, p0, q0] a r q K0 (IntKind.i64.wrap t, 0) := by
  refine ⟨?_⟩
  have eg : (IntKind.i64.wrap t, (0 : Int)) = (fun i : Nat => (IntKind.i64.wrap (t + sumTo (fun c => fwdG xd wd C (H * V) K m o c ((a : Int), (r : Int), (q : Int))) i), (i : Int))) 0 := by simp [sumTo]
  rw [eg]
  refine Loop.range (B := pedagogueref10_Conv_n3_B C H V K C xd wd [(m : Int), o, p0, q0] a r q K0) (f := fun i : Nat => (IntKind.i64.wrap (t + sumTo (fun c => fwdG xd wd C (H * V) K m o c ((a : Int), (r : Int), (q : Int))) i), (i : Int))) C (fun _ => True) trivial ?_ ?_
  · intro c hc _ X hX
    have hX := hX trivial
    unfold pedagogueref10_Conv_n3_B
    rw [if_pos (decide_eq_true (show (c : Int) < (C : Int) by omega))]
    dsimp only at hX ⊢
    simp only [List.getD_cons_zero, List.getD_cons_succ]
    have g1 : (m * C + c) * (H * V) + a < n * C * (H * V) := ix_lt (ix_lt hm hc) ha
    have g2 : ((o * C + c) * K + r) * K + q < O * C * K * K := ix_lt (ix_lt (ix_lt ho hc) hr) hq
    have g5 : (o * C + c) * K + r ≤ ((o * C + c) * K + r) * K := Nat.le_mul_of_pos_right _ (by omega)
    have g7 : o * C + c ≤ (o * C + c) * K := Nat.le_mul_of_pos_right _ (by omega)
    have ef : fwdG xd wd C (H * V) K m o c ((a : Int), (r : Int), (q : Int)) = xd.getD ((m * C + c) * (H * V) + a) 0 * wd.getD (((o * C + c) * K + r) * K + q) 0 := by
      unfold fwdG; simp only [Int.toNat_natCast]
    simp only [sumTo, ef] at hX
    rw [ix5 (by omega) hH hV, ix (r := o) (n := C) (i := c) (by omega), ix (r := o * C + c) (n := K) (i := r) (by omega), ix (r := (o * C + c) * K + r) (n := K) (i := q) (by omega)]
    refine ⟨by simp, by omega, by simp, by omega, ?_⟩
    simp only [Int.toNat_natCast]
    have b1 := ax.at_ ((m * C + c) * (H * V) + a)
    have b2 := aw.at_ (((o * C + c) * K + r) * K + q)
    have b3 := mul8 b1 b2
    rw [wrap_i64 (xd.getD ((m * C + c) * (H * V) + a) 0) (by omega) (by omega), wrap_i64 (wd.getD (((o * C + c) * K + r) * K + q) 0) (by omega) (by omega), wrap_i64 (_ * _) (by omega) (by omega), wrap_i64 ((c : Int) + 1) (by omega) (by omega), w64_add_l, Int.add_assoc]
    exact hX
  · intro _ X
    unfold pedagogueref10_Conv_n3_B
    rw [if_neg (by simp)]
    exact h
theorem rz_v {C H V K m o n O : Nat} {p0 q0 : Int} {xd wd : List Int} {l : List (Int × Int × Int)} {t : Int} {K0 : Int → Prop} (hx : xd.length = n * C * (H * V)) (hw : wd.length = O * C * K * K) (bx : n * C * (H * V) ≤ 8192) (bw : O * C * K * K ≤ 8192) (ax : All8 xd) (aw : All8 wd) (hm : m < n) (ho : o < O) (hl : InP K (H * V) l) (hll : l.length ≤ 1000000) (hC : C ≤ 8192) (hH : 1 ≤ H) (hV : 1 ≤ V)
    (h : K0 (IntKind.i64.wrap (t + sumTo (fun c => lsum l (fwdG xd wd C (H * V) K m o c)) C))) : pedagogueref10_Conv_n2 C H V K (l.length : Int) xd wd [(m : Int), o, p0, q0] l K0 (IntKind.i64.wrap t, 0) := by
  refine ⟨?_⟩
  rw [← lsum_sumTo l (fun z c => fwdG xd wd C (H * V) K m o c z), lsum_getD l _ (0, 0, 0)] at h
  have eg : (IntKind.i64.wrap t, (0 : Int)) = (fun i : Nat => (IntKind.i64.wrap (t + sumTo (fun i => sumTo (fun c => fwdG xd wd C (H * V) K m o c (l.getD i (0, 0, 0))) C) i), (i : Int))) 0 := by simp [sumTo]
  rw [eg]
  refine Loop.range (B := pedagogueref10_Conv_n2_B C H V K (l.length : Int) xd wd [(m : Int), o, p0, q0] l K0) (f := fun i : Nat => (IntKind.i64.wrap (t + sumTo (fun i => sumTo (fun c => fwdG xd wd C (H * V) K m o c (l.getD i (0, 0, 0))) C) i), (i : Int))) l.length (fun _ => True) trivial ?_ ?_
  · intro i hi _ X hX
    have hX := hX trivial
    unfold pedagogueref10_Conv_n2_B
    rw [if_pos (decide_eq_true (show (i : Int) < (l.length : Int) by omega))]
    dsimp only at hX ⊢
    refine ⟨by omega, ?_⟩
    rw [Int.toNat_natCast]
    obtain ⟨a, r, q, ez, ha, hr, hq⟩ := hl (l.getD i (0, 0, 0)) (by rw [List.getD_eq_getElem?_getD, List.getElem?_eq_getElem hi]; exact List.getElem_mem hi)
    simp only [sumTo] at hX
    rw [ez] at hX
    rw [ez]
    refine rc_v hx hw bx bw ax aw hm ho ha hr hq hC hH hV ?_
    rw [wrap_i64 ((i : Int) + 1) (by omega) (by omega), Int.add_assoc]
    exact hX
  · intro _ X
    unfold pedagogueref10_Conv_n2_B
    rw [if_neg (by simp)]
    exact h
theorem rn1_v {n C O K H V P Q : Nat} {s p : Int} {xd wd bd : List Int} {be e : Int} (g : FwdIn n C O K H V P Q xd wd bd) (hs : 0 < szF [(n : Int), O, P, Q]) (hH : 1 ≤ H) (hV : 1 ≤ V) {L : List Int} {K0 : List Int → Prop} (hL : L.length = n * O * P * Q)
    (h : K0 (lst4 n O P Q (fwdCell H V C K s p xd wd bd be e))) :
    pedagogueref10_Conv_n1 s p C H V K ((n * O * P * Q : Nat) : Int) xd wd be bd [(n : Int), O, P, Q] e K0 (0, L) := by
  have hbo := g.bo
  have hKK : K * K ≤ 5 * 5 := Nat.mul_le_mul g.hK g.hK
  refine ⟨?_⟩
  refine Loop.rangeI (B := pedagogueref10_Conv_n1_B s p C H V K ((n * O * P * Q : Nat) : Int) xd wd be bd [(n : Int), O, P, Q] e K0) (n * O * P * Q) (fun i st => st.1 = (i : Int) ∧ Fill n O P Q (fwdCell H V C K s p xd wd bd be e) (fun m o y x => ix4 O P Q m o y x < i) st.2) ⟨rfl, hL, fun _ _ _ _ _ _ _ _ hc => absurd hc (by omega)⟩ ?_ ?_
  · rintro i hi ⟨i', M⟩ ⟨e1, hM⟩ X hX
    simp only at e1 hM
    subst e1
    obtain ⟨m, o, y, x, hm, ho, hy, hx, ei⟩ := ix4_cover hi
    unfold pedagogueref10_Conv_n1_B
    rw [if_pos (decide_eq_true (show (i : Int) < ((n * O * P * Q : Nat) : Int) by omega))]
    dsimp only
    rw [wrap_i64 ((i : Int) + 1) (by omega) (by omega)]
    have key : ∀ Q' : List Int → Prop, Q' [(m : Int), o, y, x] → pedagogueref1_AtDims [(n : Int), O, P, Q] (i : Int) Q' := by
      intro Q' hQ'
      rw [ei]
      exact ratdims_v hs hm ho hy hx hQ'
    refine key _ ?_
    simp only [List.getD_cons_zero, List.getD_cons_succ]
    have b8 := g.ab.at_ o
    refine ⟨by simp, ⟨by omega, by rw [g.hb]; omega⟩, ?_⟩
    rw [Int.toNat_natCast, wrap_i64 (bd.getD o 0) (by omega) (by omega)]
    refine ral_v ⟨by simp, by simp, rwindow_v ?_⟩
    have ba := alF_rng (b := be) (c := e) b8
    have hwl := windowF_len (rows := H) (cols := V) (r := y) (c := x) (s := s) (p := p) (K := K)
    have e0 : (alF (bd.getD o 0) be e, (0 : Int)) = (IntKind.i64.wrap (alF (bd.getD o 0) be e), (0 : Int)) := by rw [wrap_i64 _ (by omega) (by omega)]
    rw [e0]
    refine rz_v g.hx g.hw g.bx g.bw g.ax g.aw hm ho windowF_in (by omega) g.le.1 hH hV ?_
    refine ⟨by rw [hM.len]; omega, ?_⟩
    rw [Int.toNat_natCast, w32_w64]
    refine hX _ ⟨by simp, ?_⟩
    have hset := hM.set (C' := fun m' o' y' x' => ix4 O P Q m' o' y' x' < i + 1) hm ho hy hx (v := IntKind.i32.wrap (alF (bd.getD o 0) be e + sumTo (fun c => lsum (windowF H V y x K s p) (fwdG xd wd C (H * V) K m o c)) C)) rfl fun m' o' y' x' hm' ho' hy' hx' hc => ?_
    · rw [← ei] at hset
      exact hset
    · rcases Nat.lt_or_ge (ix4 O P Q m' o' y' x') i with c5 | c5
      · exact .inl c5
      · refine .inr ?_
        have : ix4 O P Q m' o' y' x' = ix4 O P Q m o y x := by omega
        exact ix4_inj ho' hy' hx' ho hy hx this
  · rintro ⟨i', M⟩ ⟨e1, hM⟩ X
    simp only at e1 hM
    subst e1
    unfold pedagogueref10_Conv_n1_B
    rw [if_neg (by simp)]
    rw [hM.all fun _ _ _ _ h1 h2 h3 h4 => ix4_lt h1 h2 h3 h4]
    exact h

theorem all3 {a b c : T3} : [a, b, c].all mayF = (mayF a && (mayF b && mayF c)) := by simp [List.all_cons]
theorem all2 {a b : T3} : [a, b].all mayF = (mayF a && mayF b) := by simp [List.all_cons]
theorem cmayF2_err {x w : T3} (h : ([x, w].all mayF) = false) : cmayF [x, w] = 1 := by
  unfold cmayF; rw [h]; rfl
theorem cmayF2_len {x w : T3} (h : ([x, w].all mayF) = true) (hl : ¬ ((x.1.length : Int) = 4 ∧ (w.1.length : Int) = 4)) : cmayF [x, w] = 2 := by
  unfold cmayF
  rw [if_pos h, if_neg]
  intro g
  apply hl
  simp only [List.all_cons, List.all_nil, Bool.and_true, Bool.and_eq_true, beq_iff_eq] at g
  exact g
/-- Forward's answer, by its errors. -/
theorem convF_err1 {x w b : T3} {s p : Int} (h : ([x, w, b].all mayF) = false) : convF x w b s p = (Z3, 1) := by
  have hE : convE x w b s p = 1 := by
    unfold convE
    rw [all3] at h
    cases hb : mayF b with
    | false => rfl
    | true =>
      rw [hb, Bool.and_true] at h
      rw [cmayF2_err (by rw [all2]; exact h)]
      rfl
  unfold convF
  rw [hE]; rfl
theorem convF_err2 {x w b : T3} {s p : Int} (h : ([x, w, b].all mayF) = true) (hl : ¬ ((x.1.length : Int) = 4 ∧ (w.1.length : Int) = 4) ∨ convBad x w b s p = true) : convF x w b s p = (Z3, 2) := by
  rw [all3] at h
  simp only [Bool.and_eq_true] at h
  have hE : convE x w b s p = 2 := by
    unfold convE
    rw [h.2.2]
    simp only [Bool.not_true, Bool.false_eq_true, if_false]
    by_cases h2 : (x.1.length : Int) = 4 ∧ (w.1.length : Int) = 4
    · rw [cmayF_of (fun t ht => by
        rcases List.mem_cons.1 ht with e | e
        · subst e; exact ⟨h.1, h2.1⟩
        · rcases List.mem_singleton.1 e with rfl
          exact ⟨h.2.1, h2.2⟩)]
      rcases hl with hl | hl
      · exact absurd h2 hl
      · rw [hl]; rfl
    · rw [cmayF2_len (by rw [all2, h.1, h.2.1]; rfl) h2]; rfl
  unfold convF
  rw [hE]; rfl
theorem rconv_v {x w b : T3} {s p : Int} {Q : T3 × Int → Prop} (ax : All8 x.2.2) (aw : All8 w.2.2) (ab : All8 b.2.2) (hq : Q (convF x w b s p)) : pedagogueref10_Conv x w b s p Q := by
  refine ⟨?_⟩
  unfold pedagogueref10_Conv_t
  refine rmay_v (by simp) ?_
  show (if (!([x, w, b].all mayF)) = true then _ else _)
  cases hm : [x, w, b].all mayF with
  | false => rw [convF_err1 hm] at hq; exact hq
  | true =>
    rw [if_neg (by simp)]
    refine orb_v (b := (((x.1.length : Int) != 4) || ((w.1.length : Int) != 4)) || ((b.1.length : Int) != 1)) (c := x.1.getD 1 0 != w.1.getD 1 0) (fun hb P hp => ?_) (fun v2 e2 => ?_) rfl
    · simp only [Bool.or_eq_false_iff, bne_f] at hb
      exact ⟨by omega, by omega, hp⟩
    · refine orb_v (c := w.1.getD 2 0 != w.1.getD 3 0) (fun hb P hp => ?_) (fun v4 e4 => ?_) rfl
      · rw [e2] at hb
        simp only [Bool.or_eq_false_iff, bne_f] at hb
        exact ⟨by omega, by omega, hp⟩
      · refine orb_v (c := b.1.getD 0 0 != w.1.getD 0 0) (fun hb P hp => ?_) (fun v6 e6 => ?_) rfl
        · rw [e4, e2] at hb
          simp only [Bool.or_eq_false_iff, bne_f] at hb
          exact ⟨by omega, by omega, hp⟩
        · cases v6 with
          | true =>
            rw [if_pos rfl]
            rw [convF_err2 hm] at hq
            · exact hq
            · by_cases g1 : (x.1.length : Int) = 4 ∧ (w.1.length : Int) = 4
              · right
                rw [e4, e2] at e6
                have e6 := e6.symm
                simp only [Bool.or_eq_true, bne_iff_ne, ne_eq] at e6
                unfold convBad
                simp only [Bool.or_eq_true, bne_iff_ne, ne_eq]
                have : x.1.getD 1 0 = w.1.getD 1 0 ↔ w.1.getD 1 0 = x.1.getD 1 0 := eq_comm
                have : w.1.getD 2 0 = w.1.getD 3 0 ↔ w.1.getD 3 0 = w.1.getD 2 0 := eq_comm
                grind
              · left; exact g1
          | false =>
            rw [if_neg (by simp)]
            rw [e4, e2] at e6
            have e6 := e6.symm
            simp only [Bool.or_eq_false_iff, bne_f] at e6
            obtain ⟨⟨⟨⟨⟨l1, l2⟩, l3⟩, c1⟩, c2⟩, c3⟩ := e6
            have hm2 := hm
            rw [all3] at hm2
            simp only [Bool.and_eq_true] at hm2
            refine ⟨by omega, by omega, by omega, by omega, by omega, by omega, rplane_v ?_⟩
            show (if ((outF (x.1.getD 2 0) (w.1.getD 2 0) s p == 0) || (outF (x.1.getD 3 0) (w.1.getD 2 0) s p == 0)) = true then _ else _)
            have r1 := outF_rng (x.1.getD 2 0) (w.1.getD 2 0) s p
            have r2 := outF_rng (x.1.getD 3 0) (w.1.getD 2 0) s p
            by_cases hz : ((outF (x.1.getD 2 0) (w.1.getD 2 0) s p == 0) || (outF (x.1.getD 3 0) (w.1.getD 2 0) s p == 0)) = true
            · rw [if_pos hz]
              rw [convF_err2 hm] at hq
              · exact hq
              · right
                unfold convBad
                simp only [Bool.or_eq_true, beq_iff_eq] at hz
                simp only [Bool.or_eq_true, Bool.not_eq_true', Bool.and_eq_false_iff, decide_eq_false_iff_not, bne_iff_ne, ne_eq]
                left; left; left; left
                omega
            · rw [if_neg hz]
              simp only [Bool.or_eq_true, beq_iff_eq, not_or] at hz
              obtain ⟨n, C, H, V, ex, x1, x2, x3, x4, x5, x6, x7, x8⟩ := may4 hm2.1 l1
              obtain ⟨O, C', K, K', ew, w1, w2, w3, w4, w5, w6, w7, w8⟩ := may4 hm2.2.1 l2
              obtain ⟨O', eb, b1, b2, b3⟩ := may1 hm2.2.2 l3
              simp only [ex, ew, eb, List.getD_cons_zero, List.getD_cons_succ] at c1 c2 c3 hz r1 r2 ⊢
              have ec : C' = C := by omega
              have ek : K' = K := by omega
              have eo : O' = O := by omega
              subst ec ek eo
              obtain ⟨a1, a2, a3, a4, a5, a6⟩ := out_ok (n := H) (k := K') (s := s) (p := p) (by omega)
              obtain ⟨d1, d2, d3, d4, d5, d6⟩ := out_ok (n := V) (k := K') (s := s) (p := p) (by omega)
              obtain ⟨P, eP, hP⟩ := out_nat (n := H) (k := K') (s := s) (p := p)
              obtain ⟨R, eR, hR⟩ := out_nat (n := V) (k := K') (s := s) (p := p)
              have k0 : C' ≤ n * C' := Nat.le_mul_of_pos_left _ (by omega)
              have k0' : n * C' ≤ n * C' * H := Nat.le_mul_of_pos_right _ (by omega)
              have k0'' : n * C' * H ≤ n * C' * H * V := Nat.le_mul_of_pos_right _ (by omega)
              have k1 : C' * K' ≤ 8192 * 5 := Nat.mul_le_mul (by omega) (by omega)
              have k2 : C' * K' * K' ≤ 8192 * 5 * 5 := Nat.mul_le_mul k1 (by omega)
              have k3 : H * V ≤ 16 * 16 := Nat.mul_le_mul (by omega) (by omega)
              rw [eP, eR, mulw (r := C') (n := K') (by omega), mulw (r := C' * K') (n := K') (by omega), wrap_i64 (x.2.1 + w.2.1) (by omega) (by omega)]
              refine rsums_v ?_
              have hE : convE x w b s p = (sumsF [(n : Int), (O' : Int), (P : Int), (R : Int)] (x.2.1 + w.2.1) ((C' * K' * K' : Nat) : Int)).2 := by
                unfold convE
                rw [hm2.2.2, cmayF_of (fun t ht => by
                  rcases List.mem_cons.1 ht with e | e
                  · subst e; exact ⟨hm2.1, l1⟩
                  · rcases List.mem_singleton.1 e with rfl
                    exact ⟨hm2.2.1, l2⟩)]
                have hb : convBad x w b s p = false := by
                  unfold convBad
                  simp only [ex, ew, eb, List.getD_cons_zero, List.getD_cons_succ, eP, eR]
                  simp
                  omega
                rw [hb]
                simp only [Bool.not_true, Bool.false_eq_true, if_false, bne_self_eq_false]
                unfold convDims convN
                simp only [ex, ew, List.getD_cons_zero, List.getD_cons_succ, eP, eR, Int.natCast_mul]
              unfold convF at hq
              rw [hE] at hq
              by_cases h9 : (sumsF [(n : Int), (O' : Int), (P : Int), (R : Int)] (x.2.1 + w.2.1) ((C' * K' * K' : Nat) : Int)).2 = 0
              · obtain ⟨f1, f2, f3, f4⟩ := sumsF_ok h9
                rw [f4] at hq ⊢
                simp only [bne_self_eq_false, Bool.false_eq_true, if_false] at hq ⊢
                obtain ⟨n', m', p', q', e1, e2, e3, e4, _, _, _, _, s5, s6⟩ := szF4 f3
                have t1 : n' = n := by omega
                have t2 : m' = O' := by omega
                have t3 : p' = P := by omega
                have t4 : q' = R := by omega
                subst t1 t2 t3 t4
                have g : FwdIn n' C' m' K' H V p' q' x.2.2 w.2.2 b.2.2 := ⟨by rw [x6]; exact Nat.mul_assoc _ _ _, w6, by rw [← Nat.mul_assoc]; exact x5, w5, ax, aw, ab, b3, by omega, by omega, by omega, by omega, by omega, s5⟩
                refine ⟨?_⟩
                unfold pedagogueref10_Conv_n0_t
                rw [List.length_replicate]
                rw [s6, Int.toNat_natCast]
                refine rn1_v g f3 (by omega) (by omega) (by simp) ?_
                unfold convDims convData at hq
                simp only [ex, ew, List.getD_cons_zero, List.getD_cons_succ, eP, eR, Int.toNat_natCast] at hq
                exact hq
              · rw [if_pos (by simpa using h9)]
                rw [if_pos (by simpa using h9)] at hq
                rw [sumsF_err h9]
                exact hq

end Go.Proofs.Ytmleeffinagncaa

namespace Go.Proofs.Ytmleeffinagncaa
open Go.Mach Go.RowKit
set_option maxRecDepth 100000
set_option linter.unusedVariables false
set_option linter.unusedSimpArgs false

theorem rio_v {C P Q K m c n O : Nat} {p0 q0 : Int} {gd wd : List Int} {a r q : Nat} {t : Int} {K0 : Int → Prop} (hx : gd.length = n * O * (P * Q)) (hw : wd.length = O * C * K * K) (bx : n * O * (P * Q) ≤ 8192) (bw : O * C * K * K ≤ 8192) (ax : All8 gd) (aw : All8 wd) (hm : m < n) (hc : c < C) (ha : a < P * Q) (hr : r < K) (hq : q < K) (hO : O ≤ 8192) (hP : 1 ≤ P) (hQ : 1 ≤ Q)
    (h : K0 (IntKind.i64.wrap (t + sumTo (fun o => inG gd wd O C (P * Q) K m c o ((a : Int), (r : Int), (q : Int))) O))) : pedagogueref10_ConvInput_n3 O C K P Q O gd wd [(m : Int), c, p0, q0] a r q K0 (IntKind.i64.wrap t, 0) := by
  refine ⟨?_⟩
  have eg : (IntKind.i64.wrap t, (0 : Int)) = (fun i : Nat => (IntKind.i64.wrap (t + sumTo (fun o => inG gd wd O C (P * Q) K m c o ((a : Int), (r : Int), (q : Int))) i), (i : Int))) 0 := by simp [sumTo]
  rw [eg]
  refine Loop.range (B := pedagogueref10_ConvInput_n3_B O C K P Q O gd wd [(m : Int), c, p0, q0] a r q K0) (f := fun i : Nat => (IntKind.i64.wrap (t + sumTo (fun o => inG gd wd O C (P * Q) K m c o ((a : Int), (r : Int), (q : Int))) i), (i : Int))) O (fun _ => True) trivial ?_ ?_
  · intro o ho _ X hX
    have hX := hX trivial
    unfold pedagogueref10_ConvInput_n3_B
    rw [if_pos (decide_eq_true (show (o : Int) < (O : Int) by omega))]
    dsimp only at hX ⊢
    simp only [List.getD_cons_zero, List.getD_cons_succ]
    have g1 : (m * O + o) * (P * Q) + a < n * O * (P * Q) := ix_lt (ix_lt hm ho) ha
    have g2 : ((o * C + c) * K + r) * K + q < O * C * K * K := ix_lt (ix_lt (ix_lt ho hc) hr) hq
    have g5 : (o * C + c) * K + r ≤ ((o * C + c) * K + r) * K := Nat.le_mul_of_pos_right _ (by omega)
    have g7 : o * C + c ≤ (o * C + c) * K := Nat.le_mul_of_pos_right _ (by omega)
    have ef : inG gd wd O C (P * Q) K m c o ((a : Int), (r : Int), (q : Int)) = gd.getD ((m * O + o) * (P * Q) + a) 0 * wd.getD (((o * C + c) * K + r) * K + q) 0 := by
      unfold inG; simp only [Int.toNat_natCast]
    simp only [sumTo, ef] at hX
    rw [ix5 (by omega) hP hQ, ix (r := o) (n := C) (i := c) (by omega), ix (r := o * C + c) (n := K) (i := r) (by omega), ix (r := (o * C + c) * K + r) (n := K) (i := q) (by omega)]
    refine ⟨by simp, by omega, by simp, by omega, ?_⟩
    simp only [Int.toNat_natCast]
    have b1 := ax.at_ ((m * O + o) * (P * Q) + a)
    have b2 := aw.at_ (((o * C + c) * K + r) * K + q)
    have b3 := mul8 b1 b2
    rw [wrap_i64 (gd.getD ((m * O + o) * (P * Q) + a) 0) (by omega) (by omega), wrap_i64 (wd.getD (((o * C + c) * K + r) * K + q) 0) (by omega) (by omega), wrap_i64 (_ * _) (by omega) (by omega), wrap_i64 ((o : Int) + 1) (by omega) (by omega), w64_add_l, Int.add_assoc]
    exact hX
  · intro _ X
    unfold pedagogueref10_ConvInput_n3_B
    rw [if_neg (by simp)]
    exact h
theorem riz_v {C P Q K m c n O : Nat} {p0 q0 : Int} {gd wd : List Int} {l : List (Int × Int × Int)} {t : Int} {K0 : Int → Prop} (hx : gd.length = n * O * (P * Q)) (hw : wd.length = O * C * K * K) (bx : n * O * (P * Q) ≤ 8192) (bw : O * C * K * K ≤ 8192) (ax : All8 gd) (aw : All8 wd) (hm : m < n) (hc : c < C) (hl : InP K (P * Q) l) (hll : l.length ≤ 1000000) (hO : O ≤ 8192) (hP : 1 ≤ P) (hQ : 1 ≤ Q)
    (h : K0 (IntKind.i64.wrap (t + sumTo (fun o => lsum l (inG gd wd O C (P * Q) K m c o)) O))) : pedagogueref10_ConvInput_n2 O C K P Q (l.length : Int) gd wd [(m : Int), c, p0, q0] l K0 (IntKind.i64.wrap t, 0) := by
  refine ⟨?_⟩
  rw [← lsum_sumTo l (fun z o => inG gd wd O C (P * Q) K m c o z), lsum_getD l _ (0, 0, 0)] at h
  have eg : (IntKind.i64.wrap t, (0 : Int)) = (fun i : Nat => (IntKind.i64.wrap (t + sumTo (fun i => sumTo (fun o => inG gd wd O C (P * Q) K m c o (l.getD i (0, 0, 0))) O) i), (i : Int))) 0 := by simp [sumTo]
  rw [eg]
  refine Loop.range (B := pedagogueref10_ConvInput_n2_B O C K P Q (l.length : Int) gd wd [(m : Int), c, p0, q0] l K0) (f := fun i : Nat => (IntKind.i64.wrap (t + sumTo (fun i => sumTo (fun o => inG gd wd O C (P * Q) K m c o (l.getD i (0, 0, 0))) O) i), (i : Int))) l.length (fun _ => True) trivial ?_ ?_
  · intro i hi _ X hX
    have hX := hX trivial
    unfold pedagogueref10_ConvInput_n2_B
    rw [if_pos (decide_eq_true (show (i : Int) < (l.length : Int) by omega))]
    dsimp only at hX ⊢
    refine ⟨by omega, ?_⟩
    rw [Int.toNat_natCast]
    obtain ⟨a, r, q, ez, ha, hr, hq⟩ := hl (l.getD i (0, 0, 0)) (by rw [List.getD_eq_getElem?_getD, List.getElem?_eq_getElem hi]; exact List.getElem_mem hi)
    simp only [sumTo] at hX
    rw [ez] at hX
    rw [ez]
    refine rio_v hx hw bx bw ax aw hm hc ha hr hq hO hP hQ ?_
    rw [wrap_i64 ((i : Int) + 1) (by omega) (by omega), Int.add_assoc]
    exact hX
  · intro _ X
    unfold pedagogueref10_ConvInput_n2_B
    rw [if_neg (by simp)]
    exact h
theorem rin1_v {n C O K H V P Q : Nat} {s p : Int} {gd wd : List Int} (g : InIn n C O K H V P Q s p gd wd) (hs : 0 < szF [(n : Int), C, H, V]) (hP : 1 ≤ P) (hQ : 1 ≤ Q) {L : List Int} {K0 : List Int → Prop} (hL : L.length = n * C * H * V)
    (h : K0 (lst4 n C H V (inCell H V C O K P Q s p gd wd))) :
    pedagogueref10_ConvInput_n1 H V s p O C K P Q ((n * C * H * V : Nat) : Int) gd wd [(n : Int), C, H, V] K0 (0, L) := by
  have hbo := g.bo
  refine ⟨?_⟩
  refine Loop.rangeI (B := pedagogueref10_ConvInput_n1_B H V s p O C K P Q ((n * C * H * V : Nat) : Int) gd wd [(n : Int), C, H, V] K0) (n * C * H * V) (fun i st => st.1 = (i : Int) ∧ Fill n C H V (inCell H V C O K P Q s p gd wd) (fun m o y x => ix4 C H V m o y x < i) st.2) ⟨rfl, hL, fun _ _ _ _ _ _ _ _ hc => absurd hc (by omega)⟩ ?_ ?_
  · rintro i hi ⟨i', M⟩ ⟨e1, hM⟩ X hX
    simp only at e1 hM
    subst e1
    obtain ⟨m, c, y, x, hm, hc, hy, hx, ei⟩ := ix4_cover hi
    unfold pedagogueref10_ConvInput_n1_B
    rw [if_pos (decide_eq_true (show (i : Int) < ((n * C * H * V : Nat) : Int) by omega))]
    dsimp only
    rw [wrap_i64 ((i : Int) + 1) (by omega) (by omega)]
    have key : ∀ Q' : List Int → Prop, Q' [(m : Int), c, y, x] → pedagogueref1_AtDims [(n : Int), C, H, V] (i : Int) Q' := by
      intro Q' hQ'
      rw [ei]
      exact ratdims_v hs hm hc hy hx hQ'
    refine key _ ?_
    simp only [List.getD_cons_zero, List.getD_cons_succ]
    refine ⟨by simp, by simp, rlook_v ?_⟩
    have hll := lookF_len (rows := H) (cols := V) (r := y) (c := x) (k := K) (s := s) (p := p)
    have e0 : ((0 : Int), (0 : Int)) = (IntKind.i64.wrap 0, (0 : Int)) := by decide
    rw [e0]
    refine riz_v g.hg g.hw g.bg g.bw g.ag g.aw hm hc (lookF_in g.eP g.eQ) (by omega) g.hO hP hQ ?_
    refine ⟨by rw [hM.len]; omega, ?_⟩
    rw [Int.toNat_natCast, w32_w64, Int.zero_add]
    refine hX _ ⟨by simp, ?_⟩
    have hset := hM.set (C' := fun m' o' y' x' => ix4 C H V m' o' y' x' < i + 1) hm hc hy hx (v := IntKind.i32.wrap (sumTo (fun o => lsum (lookF H V y x K s p) (inG gd wd O C (P * Q) K m c o)) O)) rfl fun m' o' y' x' hm' ho' hy' hx' hcc => ?_
    · rw [← ei] at hset
      exact hset
    · rcases Nat.lt_or_ge (ix4 C H V m' o' y' x') i with c5 | c5
      · exact .inl c5
      · refine .inr ?_
        have : ix4 C H V m' o' y' x' = ix4 C H V m c y x := by omega
        exact ix4_inj ho' hy' hx' hc hy hx this
  · rintro ⟨i', M⟩ ⟨e1, hM⟩ X
    simp only at e1 hM
    subst e1
    unfold pedagogueref10_ConvInput_n1_B
    rw [if_neg (by simp)]
    rw [hM.all fun _ _ _ _ h1 h2 h3 h4 => ix4_lt h1 h2 h3 h4]
    exact h
theorem inputF_err1 {g w : T3} {h v s p : Int} (hm : ([g, w].all mayF) = false) : inputF g w h v s p = (Z3, 1) := by
  have hE : inE g w h v s p = 1 := by
    unfold inE
    rw [cmayF2_err hm]; rfl
  unfold inputF
  rw [hE]; rfl
theorem inputF_err2 {g w : T3} {h v s p : Int} (hm : ([g, w].all mayF) = true) (hl : ¬ ((g.1.length : Int) = 4 ∧ (w.1.length : Int) = 4) ∨ inBad g w h v s p = true) : inputF g w h v s p = (Z3, 2) := by
  have hm' := hm
  rw [all2] at hm'
  simp only [Bool.and_eq_true] at hm'
  have hE : inE g w h v s p = 2 := by
    unfold inE
    by_cases h2 : (g.1.length : Int) = 4 ∧ (w.1.length : Int) = 4
    · rw [cmayF_of (fun t ht => by
        rcases List.mem_cons.1 ht with e | e
        · subst e; exact ⟨hm'.1, h2.1⟩
        · rcases List.mem_singleton.1 e with rfl
          exact ⟨hm'.2, h2.2⟩)]
      rcases hl with hl | hl
      · exact absurd h2 hl
      · rw [hl]; rfl
    · rw [cmayF2_len hm h2]; rfl
  unfold inputF
  rw [hE]; rfl
theorem rinput_v {g w : T3} {h v s p : Int} {Q : T3 × Int → Prop} (ag : All8 g.2.2) (aw : All8 w.2.2) (hq : Q (inputF g w h v s p)) : pedagogueref10_ConvInput g w h v s p Q := by
  refine ⟨?_⟩
  unfold pedagogueref10_ConvInput_t
  refine rmay_v (by simp) ?_
  show (if (!([g, w].all mayF)) = true then _ else _)
  cases hm : [g, w].all mayF with
  | false => rw [inputF_err1 hm] at hq; exact hq
  | true =>
    rw [if_neg (by simp)]
    refine orb_v (b := ((g.1.length : Int) != 4) || ((w.1.length : Int) != 4)) (c := g.1.getD 1 0 != w.1.getD 0 0) (fun hb P hp => ?_) (fun v2 e2 => ?_) rfl
    · simp only [Bool.or_eq_false_iff, bne_f] at hb
      exact ⟨by omega, by omega, hp⟩
    · refine orb_v (c := w.1.getD 2 0 != w.1.getD 3 0) (fun hb P hp => ?_) (fun v4 e4 => ?_) rfl
      · rw [e2] at hb
        simp only [Bool.or_eq_false_iff, bne_f] at hb
        exact ⟨by omega, by omega, hp⟩
      · cases v4 with
        | true =>
          rw [if_pos rfl]
          rw [inputF_err2 hm] at hq
          · exact hq
          · by_cases g1 : (g.1.length : Int) = 4 ∧ (w.1.length : Int) = 4
            · right
              rw [e2] at e4
              have e4 := e4.symm
              simp only [Bool.or_eq_true, bne_iff_ne, ne_eq] at e4
              unfold inBad
              simp only [Bool.or_eq_true, bne_iff_ne, ne_eq]
              have : g.1.getD 1 0 = w.1.getD 0 0 ↔ w.1.getD 0 0 = g.1.getD 1 0 := eq_comm
              have : w.1.getD 2 0 = w.1.getD 3 0 ↔ w.1.getD 3 0 = w.1.getD 2 0 := eq_comm
              grind
            · left; exact g1
        | false =>
          rw [if_neg (by simp)]
          rw [e2] at e4
          have e4 := e4.symm
          simp only [Bool.or_eq_false_iff, bne_f] at e4
          obtain ⟨⟨⟨l1, l2⟩, c1⟩, c2⟩ := e4
          have hm2 := hm
          rw [all2] at hm2
          simp only [Bool.and_eq_true] at hm2
          refine ⟨by omega, by omega, by omega, by omega, rplane_v ?_⟩
          have r1 := outF_rng h (w.1.getD 2 0) s p
          have r2 := outF_rng v (w.1.getD 2 0) s p
          refine orb_v (b := (outF h (w.1.getD 2 0) s p == 0) || (outF v (w.1.getD 2 0) s p == 0)) (c := outF h (w.1.getD 2 0) s p != g.1.getD 2 0) (fun hb P hp => ⟨by omega, hp⟩) (fun v7 e7 => ?_) rfl
          refine orb_v (c := outF v (w.1.getD 2 0) s p != g.1.getD 3 0) (fun hb P hp => ⟨by omega, hp⟩) (fun v9 e9 => ?_) rfl
          have hbad : inBad g w h v s p = v9 := by
            rw [e9, e7, Bool.eq_iff_iff]
            unfold inBad
            simp only [Bool.or_eq_true, Bool.not_eq_true', Bool.and_eq_false_iff, decide_eq_false_iff_not, bne_iff_ne, ne_eq, beq_iff_eq]
            have : g.1.getD 2 0 = outF h (w.1.getD 2 0) s p ↔ outF h (w.1.getD 2 0) s p = g.1.getD 2 0 := eq_comm
            have : g.1.getD 3 0 = outF v (w.1.getD 2 0) s p ↔ outF v (w.1.getD 2 0) s p = g.1.getD 3 0 := eq_comm
            grind
          cases v9 with
          | true =>
            rw [if_pos rfl]
            rw [inputF_err2 hm (.inr hbad)] at hq
            exact hq
          | false =>
            rw [if_neg (by simp)]
            have hb2 := hbad
            unfold inBad at hb2
            simp only [Bool.or_eq_false_iff, bne_f, Bool.not_eq_false', Bool.and_eq_true, decide_eq_true_eq] at hb2
            obtain ⟨⟨⟨⟨⟨o1, o2⟩, d1⟩, d2⟩, d3⟩, d4⟩ := hb2
            obtain ⟨n, O, P, R, eg, g1, g2, g3, g4, g5, g6, g7, g8⟩ := may4 hm2.1 l1
            obtain ⟨O', C, K, K', ew, w1, w2, w3, w4, w5, w6, w7, w8⟩ := may4 hm2.2 l2
            simp only [eg, ew, List.getD_cons_zero, List.getD_cons_succ] at o1 o2 d1 d2 d3 d4 ⊢
            have eo : O' = O := by omega
            have ek : K' = K := by omega
            subst eo ek
            obtain ⟨a1, a2, a3, a4, a5, a6⟩ := out_ok o1
            obtain ⟨f1, _⟩ := out_ok o2
            obtain ⟨H, rfl⟩ := Int.eq_ofNat_of_zero_le (show 0 ≤ h by omega)
            obtain ⟨V, rfl⟩ := Int.eq_ofNat_of_zero_le (show 0 ≤ v by omega)
            have k1 : O' ≤ O' * C := Nat.le_mul_of_pos_right _ (by omega)
            have k2 : O' * C ≤ O' * C * K' := Nat.le_mul_of_pos_right _ (by omega)
            have k3 : O' * C * K' ≤ O' * C * K' * K' := Nat.le_mul_of_pos_right _ (by omega)
            have k4 : O' * K' ≤ 8192 * 5 := Nat.mul_le_mul (by omega) (by omega)
            have k5 : O' * K' * K' ≤ 8192 * 5 * 5 := Nat.mul_le_mul k4 (by omega)
            have k6 : C ≤ O' * C := Nat.le_mul_of_pos_left _ (by omega)
            have k7 : n ≤ n * O' := Nat.le_mul_of_pos_right _ (by omega)
            have k8 : n * O' ≤ n * O' * P := Nat.le_mul_of_pos_right _ (by omega)
            have k9 : n * O' * P ≤ n * O' * P * R := Nat.le_mul_of_pos_right _ (by omega)
            refine ⟨?_⟩
            unfold pedagogueref10_ConvInput_n0_t
            rw [mulw (r := O') (n := K') (by omega), mulw (r := O' * K') (n := K') (by omega), wrap_i64 (g.2.1 + w.2.1) (by omega) (by omega)]
            refine rsums_v ?_
            have hE : inE g w H V s p = (sumsF [(n : Int), (C : Int), (H : Int), (V : Int)] (g.2.1 + w.2.1) ((O' * K' * K' : Nat) : Int)).2 := by
              unfold inE
              rw [hbad, cmayF_of (fun t ht => by
                rcases List.mem_cons.1 ht with e | e
                · subst e; exact ⟨hm2.1, l1⟩
                · rcases List.mem_singleton.1 e with rfl
                  exact ⟨hm2.2, l2⟩)]
              simp only [Bool.false_eq_true, if_false, bne_self_eq_false]
              unfold inDims inN
              simp only [eg, ew, List.getD_cons_zero, List.getD_cons_succ, Int.natCast_mul]
            unfold inputF at hq
            rw [hE] at hq
            by_cases h9 : (sumsF [(n : Int), (C : Int), (H : Int), (V : Int)] (g.2.1 + w.2.1) ((O' * K' * K' : Nat) : Int)).2 = 0
            · obtain ⟨f1', f2, f3, f4⟩ := sumsF_ok h9
              rw [f4] at hq ⊢
              simp only [bne_self_eq_false, Bool.false_eq_true, if_false] at hq ⊢
              obtain ⟨q1, q2, q3, q4, e1, e2, e3, e4, _, _, _, _, s5, s6⟩ := szF4 f3
              have t1 : q1 = n := by omega
              have t2 : q2 = C := by omega
              have t3 : q3 = H := by omega
              have t4 : q4 = V := by omega
              subst t1 t2 t3 t4
              have gg : InIn q1 q2 O' K' q3 q4 P R s p g.2.2 w.2.2 := ⟨by rw [g6]; exact Nat.mul_assoc _ _ _, w6, by rw [← Nat.mul_assoc]; exact g5, w5, ag, aw, d3.symm, d4.symm, by omega, by omega, s5, by omega, by omega, by omega⟩
              rw [List.length_replicate]
              rw [s6, Int.toNat_natCast, ← d3, ← d4]
              refine rin1_v gg f3 (by omega) (by omega) (by simp) ?_
              unfold inDims inData at hq
              simp only [eg, ew, List.getD_cons_zero, List.getD_cons_succ, Int.toNat_natCast] at hq
              exact hq
            · rw [if_pos (by simpa using h9)]
              rw [if_pos (by simpa using h9)] at hq
              rw [sumsF_err h9]
              exact hq

/-! ### Bias -/
theorem rbs_v {plane O : Nat} {gd d : List Int} {K0 : List Int → Prop} (h8 : All8 gd) (hl : gd.length ≤ 8192) (hp : 1 ≤ plane) (hO : 1 ≤ O) (hO2 : O ≤ 8192) (hp2 : plane ≤ 8192) (hd : 1 < d.length) (hd1 : d.getD 1 0 = (O : Int))
    (hk : K0 (tab O fun o => IntKind.i32.wrap (bsSum plane O gd o gd.length))) : pedagogueref10_ConvBias_n0 plane gd (gd.length : Int) d K0 (0, List.replicate O 0) := by
  refine ⟨?_⟩
  have eg : ((0 : Int), List.replicate O (0 : Int)) = (fun j : Nat => ((j : Int), tab O fun o => IntKind.i32.wrap (bsSum plane O gd o j))) 0 := by
    dsimp only
    congr 1
    refine tab_of (by simp) fun i hi => ?_
    rw [getD_repl hi]
    show 0 = IntKind.i32.wrap 0
    decide
  rw [eg]
  refine Loop.range (B := pedagogueref10_ConvBias_n0_B plane gd (gd.length : Int) d K0) (f := fun j : Nat => ((j : Int), tab O fun o => IntKind.i32.wrap (bsSum plane O gd o j))) gd.length (fun _ => True) trivial ?_ ?_
  · intro i hi _ X hX
    have hX := hX trivial
    unfold pedagogueref10_ConvBias_n0_B
    rw [if_pos (decide_eq_true (show (i : Int) < (gd.length : Int) by omega))]
    dsimp only at hX ⊢
    have l1 : i / plane ≤ i := Nat.div_le_self _ _
    obtain ⟨y, ey⟩ : ∃ y, i / plane = y := ⟨_, rfl⟩
    have et : IntKind.i64.wrap ((i : Int).tdiv (plane : Int)) = (y : Int) := by
      rw [Int.tdiv_eq_ediv_of_nonneg (by omega), ← Int.natCast_ediv, ey]
      rw [ey] at l1
      rw [wrap_i64 _ (by omega) (by omega)]
    have hm := Nat.mod_lt y (show 0 < O by omega)
    obtain ⟨o, eo⟩ : ∃ o, y % O = o := ⟨_, rfl⟩
    have em : (y : Int).tmod (O : Int) = (o : Int) := by
      rw [Int.tmod_eq_emod_of_nonneg (by omega), ← Int.natCast_emod, eo]
    rw [hd1, et, em, tab_len]
    refine ⟨by omega, by omega, by omega, by omega, by omega, by omega, ?_⟩
    rw [Int.toNat_natCast, Int.toNat_natCast, tab_getD _ (by omega), tab_set (by omega), wrap_i64 ((i : Int) + 1) (by omega) (by omega), w32_add_l, w32_add_r]
    have : (tab O fun j => if j = o then IntKind.i32.wrap (bsSum plane O gd o i + gd.getD i 0) else IntKind.i32.wrap (bsSum plane O gd j i)) = tab O fun o => IntKind.i32.wrap (bsSum plane O gd o (i + 1)) := by
      refine tab_congr fun j hj => ?_
      unfold bsSum
      simp only [sumTo]
      by_cases e : j = o
      · subst e
        rw [if_pos rfl, if_pos (by rw [ey, eo])]
      · rw [if_neg e, if_neg (by rw [ey, eo]; exact fun hh => e hh.symm), Int.add_zero]
    rw [this]
    exact hX
  · intro _ X
    unfold pedagogueref10_ConvBias_n0_B
    rw [if_neg (by simp)]
    exact hk
theorem rbias_v {g : T3} {Q : T3 × Int → Prop} (ag : All8 g.2.2) (hq : Q (biasF g)) : pedagogueref10_ConvBias g Q := by
  refine ⟨?_⟩
  unfold pedagogueref10_ConvBias_t
  refine rmay_v (by simp) ?_
  show (if (!([g].all mayF)) = true then _ else _)
  have e1 : [g].all mayF = mayF g := by simp
  rw [e1]
  cases hm : mayF g with
  | false =>
    have hE : bsE g = 1 := by
      unfold bsE cmayF
      rw [e1, hm]; rfl
    unfold biasF at hq
    rw [hE] at hq
    exact hq
  | true =>
    rw [if_neg (by simp)]
    by_cases l1 : (g.1.length : Int) = 4
    · rw [if_neg (by simp [l1])]
      obtain ⟨n, O, P, R, eg, g1, g2, g3, g4, g5, g6, g7, g8⟩ := may4 hm l1
      refine ⟨by omega, by omega, by omega, by omega, ?_⟩
      have hc : cmayF [g] = 0 := cmayF_of fun t ht => by
        rcases List.mem_singleton.1 ht with rfl
        exact ⟨hm, l1⟩
      unfold biasF bsE bsData at hq
      rw [hc] at hq
      simp only [eg, List.getD_cons_zero, List.getD_cons_succ, bne_self_eq_false, Bool.false_eq_true, if_false] at hq ⊢
      have k1 : P * R ≤ n * O * (P * R) := Nat.le_mul_of_pos_left _ (Nat.mul_pos (by omega) (by omega))
      rw [← Nat.mul_assoc] at k1
      have k2 : n ≤ n * O := Nat.le_mul_of_pos_right _ (by omega)
      have k3 : n * P * R ≤ n * O * P * R := Nat.mul_le_mul_right _ (Nat.mul_le_mul_right _ k2)
      have k4 : O ≤ n * O := Nat.le_mul_of_pos_left _ (by omega)
      have k5 : n * O ≤ n * O * P := Nat.le_mul_of_pos_right _ (by omega)
      have k6 : n * O * P ≤ n * O * P * R := Nat.le_mul_of_pos_right _ (by omega)
      have k7 : n * P * R = n * (P * R) := Nat.mul_assoc _ _ _
      rw [mulw (r := P) (n := R) (by omega), mulw (r := n) (n := P * R) (by omega)]
      rw [← Int.natCast_mul, ← Int.natCast_mul] at hq
      refine rsums_v ?_
      by_cases h9 : (sumsF [(O : Int)] g.2.1 ((n * (P * R) : Nat) : Int)).2 = 0
      · obtain ⟨f1, f2, f3, f4⟩ := sumsF_ok h9
        rw [f4] at hq ⊢
        simp only [bne_self_eq_false, Bool.false_eq_true, if_false] at hq ⊢
        rw [(szF1 f3).2.2, Int.toNat_natCast]
        refine rbs_v ag (by omega) (Nat.mul_pos (by omega) (by omega)) (by omega) (by omega) (by omega) (by simp) (by simp) ?_
        simp only [Int.toNat_natCast] at hq
        exact hq
      · rw [if_pos (by simpa using h9)]
        rw [if_pos (by simpa using h9)] at hq
        rw [sumsF_err h9]
        exact hq
    · rw [if_pos (by simpa using l1)]
      have hE : bsE g = 2 := by
        have hc : cmayF [g] = 2 := by
          unfold cmayF
          rw [e1, hm, if_pos rfl, if_neg (by simpa using l1)]
        unfold bsE
        rw [hc]; rfl
      unfold biasF at hq
      rw [hE] at hq
      exact hq

end Go.Proofs.Ytmleeffinagncaa

namespace Go.Proofs.Ytmleeffinagncaa
open Go.Mach Go.RowKit
set_option maxRecDepth 100000
set_option linter.unusedVariables false
set_option linter.unusedSimpArgs false

section
variable {n O C K P Q H V : Nat} {gd xd : List Int}
theorem rw6_v (h : WtIn n O C K P Q (H * V) gd xd) (hH : 1 ≤ H) (hV : 1 ≤ V) {f : Nat → Nat → Nat → Nat → Int} {y z o j a r q : Nat} {K0 : List Int → Prop} (hy : y < P) (hz : z < Q) (ho : o < O) (hj : j < C) (ha : a < H * V) (hr : r < K) (hq : q < K) (hn : n ≤ 8192)
    (hk : K0 (w4 O C K K fun o' c' r' q' => f o' c' r' q' + if o' = o ∧ c' = j ∧ r' = r ∧ q' = q then wtM n O C P Q (H * V) gd xd (y * Q + z) o j a else 0)) :
    pedagogueref10_ConvWeight_n6 K O C H V P Q y z o j n gd xd a r q K0 (0, w4 O C K K f) := by
  refine ⟨?_⟩
  have eg : ((0 : Int), w4 O C K K f) = (fun t : Nat => ((t : Int), w4 O C K K fun o' c' r' q' => f o' c' r' q' + if o' = o ∧ c' = j ∧ r' = r ∧ q' = q then sumTo (fun m => wtG O C P Q (H * V) gd xd (y * Q + z) m o j a) t else 0)) 0 := by
    dsimp only
    congr 1
    refine w4_congr fun o' c' r' q' _ _ _ _ => ?_
    simp [sumTo]
  rw [eg]
  refine Loop.range (B := pedagogueref10_ConvWeight_n6_B K O C H V P Q y z o j n gd xd a r q K0) (f := fun t : Nat => ((t : Int), w4 O C K K fun o' c' r' q' => f o' c' r' q' + if o' = o ∧ c' = j ∧ r' = r ∧ q' = q then sumTo (fun m => wtG O C P Q (H * V) gd xd (y * Q + z) m o j a) t else 0)) n (fun _ => True) trivial ?_ ?_
  · intro m hm _ X hX
    have hX := hX trivial
    have k1 := h.bg; have k2 := h.bx; have k3 := h.bw
    have i1 := ix4_lt (P := K) (Q := K) ho hj hr hq
    have i2 : (m * C + j) * (H * V) + a < n * C * (H * V) := ix_lt (ix_lt hm hj) ha
    have i3 := ix4_lt (n := n) (P := P) (Q := Q) hm ho hy hz
    have j1 : o * C + j ≤ (o * C + j) * K := Nat.le_mul_of_pos_right _ (by omega)
    have j2 : (o * C + j) * K + r ≤ ((o * C + j) * K + r) * K := Nat.le_mul_of_pos_right _ (by omega)
    have j4 : m * O + o ≤ (m * O + o) * P := Nat.le_mul_of_pos_right _ h.hP
    have j5 : (m * O + o) * P + y ≤ ((m * O + o) * P + y) * Q := Nat.le_mul_of_pos_right _ h.hQ
    have ei : ix4 O P Q m o y z = (m * O + o) * P * Q + (y * Q + z) := by unfold ix4; rw [Nat.add_mul, Nat.add_assoc]
    rw [ei] at i3
    have ei' : ((m * O + o) * P + y) * Q + z = (m * O + o) * P * Q + (y * Q + z) := ei
    unfold ix4 at i1
    unfold pedagogueref10_ConvWeight_n6_B
    rw [if_pos (decide_eq_true (show (m : Int) < (n : Int) by omega))]
    dsimp only at hX ⊢
    rw [ix (r := o) (n := C) (i := j) (by omega), ix (r := o * C + j) (n := K) (i := r) (by omega), ix (r := (o * C + j) * K + r) (n := K) (i := q) (by omega)]
    rw [ix (r := m) (n := O) (i := o) (by omega), ix (r := m * O + o) (n := P) (i := y) (by omega), ix (r := (m * O + o) * P + y) (n := Q) (i := z) (by omega)]
    rw [ix5 (by omega) hH hV, w4_len, ei']
    refine ⟨by omega, by rw [h.hg]; omega, by rw [h.hx]; omega, by omega, ?_⟩
    simp only [Int.toNat_natCast]
    rw [wrap_i64 ((m : Int) + 1) (by omega) (by omega), w32_add_r]
    have g8 := h.ag.at_ ((m * O + o) * P * Q + (y * Q + z))
    have x8 := h.ax.at_ ((m * C + j) * (H * V) + a)
    rw [wrap_i32 (gd.getD ((m * O + o) * P * Q + (y * Q + z)) 0) (by omega) (by omega), wrap_i32 (xd.getD ((m * C + j) * (H * V) + a) 0) (by omega) (by omega)]
    have es := w4_add (n := O) (O := C) (P := K) (Q := K) (m0 := o) (o0 := j) (p0 := r) (q0 := q) (f := fun o' c' r' q' => f o' c' r' q' + if o' = o ∧ c' = j ∧ r' = r ∧ q' = q then sumTo (fun m => wtG O C P Q (H * V) gd xd (y * Q + z) m o j a) m else 0) (v := gd.getD ((m * O + o) * P * Q + (y * Q + z)) 0 * xd.getD ((m * C + j) * (H * V) + a) 0) ho hj hr hq
    unfold ix4 at es
    rw [es]
    have ef : (w4 O C K K fun o' c' r' q' => (f o' c' r' q' + if o' = o ∧ c' = j ∧ r' = r ∧ q' = q then sumTo (fun m => wtG O C P Q (H * V) gd xd (y * Q + z) m o j a) m else 0) + if o' = o ∧ c' = j ∧ r' = r ∧ q' = q then gd.getD ((m * O + o) * P * Q + (y * Q + z)) 0 * xd.getD ((m * C + j) * (H * V) + a) 0 else 0) = w4 O C K K fun o' c' r' q' => f o' c' r' q' + if o' = o ∧ c' = j ∧ r' = r ∧ q' = q then sumTo (fun m => wtG O C P Q (H * V) gd xd (y * Q + z) m o j a) (m + 1) else 0 := by
      refine w4_congr fun o' c' r' q' _ _ _ _ => ?_
      rw [Int.add_assoc]
      congr 1
      by_cases g : o' = o ∧ c' = j ∧ r' = r ∧ q' = q
      · rw [if_pos g, if_pos g, if_pos g]; rfl
      · rw [if_neg g, if_neg g, if_neg g]; rfl
    rw [ef]
    exact hX
  · intro _ X
    unfold pedagogueref10_ConvWeight_n6_B
    rw [if_neg (by simp)]
    exact hk
theorem rw5_v (h : WtIn n O C K P Q (H * V) gd xd) (hH : 1 ≤ H) (hV : 1 ≤ V) {f : Nat → Nat → Nat → Nat → Int} {y z o a r q : Nat} {K0 : List Int → Prop} (hy : y < P) (hz : z < Q) (ho : o < O) (ha : a < H * V) (hr : r < K) (hq : q < K) (hn : n ≤ 8192) (hC : C ≤ 8192)
    (hk : K0 (w4 O C K K fun o' c' r' q' => f o' c' r' q' + if o' = o ∧ r' = r ∧ q' = q then wtM n O C P Q (H * V) gd xd (y * Q + z) o' c' a else 0)) :
    pedagogueref10_ConvWeight_n5 K n O C H V P Q y z o C gd xd a r q K0 (0, w4 O C K K f) := by
  refine ⟨?_⟩
  have eg : ((0 : Int), w4 O C K K f) = (fun t : Nat => ((t : Int), w4 O C K K fun o' c' r' q' => f o' c' r' q' + if o' = o ∧ c' < t ∧ r' = r ∧ q' = q then wtM n O C P Q (H * V) gd xd (y * Q + z) o' c' a else 0)) 0 := by
    dsimp only
    congr 1
    refine w4_congr fun o' c' r' q' _ _ _ _ => ?_
    rw [if_neg (by omega)]; omega
  rw [eg]
  refine Loop.range (B := pedagogueref10_ConvWeight_n5_B K n O C H V P Q y z o C gd xd a r q K0) (f := fun t : Nat => ((t : Int), w4 O C K K fun o' c' r' q' => f o' c' r' q' + if o' = o ∧ c' < t ∧ r' = r ∧ q' = q then wtM n O C P Q (H * V) gd xd (y * Q + z) o' c' a else 0)) C (fun _ => True) trivial ?_ ?_
  · intro j hj _ X hX
    have hX := hX trivial
    unfold pedagogueref10_ConvWeight_n5_B
    rw [if_pos (decide_eq_true (show (j : Int) < (C : Int) by omega))]
    dsimp only at hX ⊢
    refine rw6_v h hH hV hy hz ho hj ha hr hq hn ?_
    rw [wrap_i64 ((j : Int) + 1) (by omega) (by omega)]
    have ef : (w4 O C K K fun o' c' r' q' => (f o' c' r' q' + if o' = o ∧ c' < j ∧ r' = r ∧ q' = q then wtM n O C P Q (H * V) gd xd (y * Q + z) o' c' a else 0) + if o' = o ∧ c' = j ∧ r' = r ∧ q' = q then wtM n O C P Q (H * V) gd xd (y * Q + z) o j a else 0) = w4 O C K K fun o' c' r' q' => f o' c' r' q' + if o' = o ∧ c' < j + 1 ∧ r' = r ∧ q' = q then wtM n O C P Q (H * V) gd xd (y * Q + z) o' c' a else 0 := by
      refine w4_congr fun o' c' r' q' _ _ _ _ => ?_
      rw [Int.add_assoc]
      congr 1
      by_cases g : o' = o ∧ r' = r ∧ q' = q
      · obtain ⟨g1, g2, g3⟩ := g
        subst g1 g2 g3
        by_cases g4 : c' = j
        · subst g4
          rw [if_neg (by omega), if_pos ⟨rfl, rfl, rfl, rfl⟩, if_pos ⟨rfl, by omega, rfl, rfl⟩]
          omega
        · rw [if_neg (c := _ ∧ c' = j ∧ _) (by omega)]
          by_cases g5 : c' < j
          · rw [if_pos ⟨rfl, g5, rfl, rfl⟩, if_pos ⟨rfl, by omega, rfl, rfl⟩]; omega
          · rw [if_neg (by omega), if_neg (by omega)]; omega
      · rw [if_neg (fun hh => g ⟨hh.1, hh.2.2⟩), if_neg (fun hh => g ⟨hh.1, hh.2.2⟩), if_neg (fun hh => g ⟨hh.1, hh.2.2⟩)]; omega
    rw [ef]
    exact hX
  · intro _ X
    unfold pedagogueref10_ConvWeight_n5_B
    rw [if_neg (by simp)]
    have : (w4 O C K K fun o' c' r' q' => f o' c' r' q' + if o' = o ∧ c' < C ∧ r' = r ∧ q' = q then wtM n O C P Q (H * V) gd xd (y * Q + z) o' c' a else 0) = w4 O C K K fun o' c' r' q' => f o' c' r' q' + if o' = o ∧ r' = r ∧ q' = q then wtM n O C P Q (H * V) gd xd (y * Q + z) o' c' a else 0 := by
      refine w4_congr fun o' c' r' q' _ h2 _ _ => ?_
      congr 1
      by_cases g : o' = o ∧ r' = r ∧ q' = q
      · rw [if_pos g, if_pos ⟨g.1, h2, g.2⟩]
      · rw [if_neg g, if_neg (fun hh => g ⟨hh.1, hh.2.2⟩)]
    dsimp only
    rw [this]
    exact hk
theorem rw4_v (h : WtIn n O C K P Q (H * V) gd xd) (hH : 1 ≤ H) (hV : 1 ≤ V) {f : Nat → Nat → Nat → Nat → Int} {y z a r q : Nat} {K0 : List Int → Prop} (hy : y < P) (hz : z < Q) (ha : a < H * V) (hr : r < K) (hq : q < K) (hn : n ≤ 8192) (hC : C ≤ 8192) (hO : O ≤ 8192)
    (hk : K0 (w4 O C K K fun o' c' r' q' => f o' c' r' q' + if r' = r ∧ q' = q then wtM n O C P Q (H * V) gd xd (y * Q + z) o' c' a else 0)) :
    pedagogueref10_ConvWeight_n4 K n O C H V P Q y z O gd xd a r q K0 (0, w4 O C K K f) := by
  refine ⟨?_⟩
  have eg : ((0 : Int), w4 O C K K f) = (fun t : Nat => ((t : Int), w4 O C K K fun o' c' r' q' => f o' c' r' q' + if o' < t ∧ r' = r ∧ q' = q then wtM n O C P Q (H * V) gd xd (y * Q + z) o' c' a else 0)) 0 := by
    dsimp only
    congr 1
    refine w4_congr fun o' c' r' q' _ _ _ _ => ?_
    rw [if_neg (by omega)]; omega
  rw [eg]
  refine Loop.range (B := pedagogueref10_ConvWeight_n4_B K n O C H V P Q y z O gd xd a r q K0) (f := fun t : Nat => ((t : Int), w4 O C K K fun o' c' r' q' => f o' c' r' q' + if o' < t ∧ r' = r ∧ q' = q then wtM n O C P Q (H * V) gd xd (y * Q + z) o' c' a else 0)) O (fun _ => True) trivial ?_ ?_
  · intro o ho _ X hX
    have hX := hX trivial
    unfold pedagogueref10_ConvWeight_n4_B
    rw [if_pos (decide_eq_true (show (o : Int) < (O : Int) by omega))]
    dsimp only at hX ⊢
    refine rw5_v h hH hV hy hz ho ha hr hq hn hC ?_
    rw [wrap_i64 ((o : Int) + 1) (by omega) (by omega)]
    have ef : (w4 O C K K fun o' c' r' q' => (f o' c' r' q' + if o' < o ∧ r' = r ∧ q' = q then wtM n O C P Q (H * V) gd xd (y * Q + z) o' c' a else 0) + if o' = o ∧ r' = r ∧ q' = q then wtM n O C P Q (H * V) gd xd (y * Q + z) o' c' a else 0) = w4 O C K K fun o' c' r' q' => f o' c' r' q' + if o' < o + 1 ∧ r' = r ∧ q' = q then wtM n O C P Q (H * V) gd xd (y * Q + z) o' c' a else 0 := by
      refine w4_congr fun o' c' r' q' _ _ _ _ => ?_
      rw [Int.add_assoc]
      congr 1
      by_cases g : r' = r ∧ q' = q
      · by_cases g4 : o' = o
        · subst g4
          rw [if_neg (by omega), if_pos ⟨rfl, g⟩, if_pos ⟨by omega, g⟩]; omega
        · rw [if_neg (c := o' = o ∧ _) (by omega)]
          by_cases g5 : o' < o
          · rw [if_pos ⟨g5, g⟩, if_pos ⟨by omega, g⟩]; omega
          · rw [if_neg (by omega), if_neg (by omega)]; omega
      · rw [if_neg (fun hh => g hh.2), if_neg (fun hh => g hh.2), if_neg (fun hh => g hh.2)]; omega
    rw [ef]
    exact hX
  · intro _ X
    unfold pedagogueref10_ConvWeight_n4_B
    rw [if_neg (by simp)]
    have : (w4 O C K K fun o' c' r' q' => f o' c' r' q' + if o' < O ∧ r' = r ∧ q' = q then wtM n O C P Q (H * V) gd xd (y * Q + z) o' c' a else 0) = w4 O C K K fun o' c' r' q' => f o' c' r' q' + if r' = r ∧ q' = q then wtM n O C P Q (H * V) gd xd (y * Q + z) o' c' a else 0 := by
      refine w4_congr fun o' c' r' q' h2 _ _ _ => ?_
      congr 1
      by_cases g : r' = r ∧ q' = q
      · rw [if_pos g, if_pos ⟨h2, g⟩]
      · rw [if_neg g, if_neg (fun hh => g hh.2)]
    dsimp only
    rw [this]
    exact hk
theorem rw3_v (h : WtIn n O C K P Q (H * V) gd xd) (hH : 1 ≤ H) (hV : 1 ≤ V) {f : Nat → Nat → Nat → Nat → Int} {y z : Nat} {l : List (Int × Int × Int)} {K0 : List Int → Prop} (hy : y < P) (hz : z < Q) (hl : InP K (H * V) l) (hll : l.length ≤ 1000000) (hn : n ≤ 8192) (hC : C ≤ 8192) (hO : O ≤ 8192)
    (hk : K0 (w4 O C K K fun o' c' r' q' => f o' c' r' q' + lsum l (wtZ n O C P Q (H * V) gd xd (y * Q + z) o' c' r' q'))) :
    pedagogueref10_ConvWeight_n3 K n O C H V P Q y z (l.length : Int) gd xd l K0 (0, w4 O C K K f) := by
  refine ⟨?_⟩
  have eg : ((0 : Int), w4 O C K K f) = (fun j : Nat => ((j : Int), w4 O C K K fun o' c' r' q' => f o' c' r' q' + sumTo (fun t => wtZ n O C P Q (H * V) gd xd (y * Q + z) o' c' r' q' (l.getD t (0, 0, 0))) j)) 0 := by
    dsimp only
    congr 1
    refine w4_congr fun o' c' r' q' _ _ _ _ => ?_
    simp [sumTo]
  rw [eg]
  refine Loop.range (B := pedagogueref10_ConvWeight_n3_B K n O C H V P Q y z (l.length : Int) gd xd l K0) (f := fun j : Nat => ((j : Int), w4 O C K K fun o' c' r' q' => f o' c' r' q' + sumTo (fun t => wtZ n O C P Q (H * V) gd xd (y * Q + z) o' c' r' q' (l.getD t (0, 0, 0))) j)) l.length (fun _ => True) trivial ?_ ?_
  · intro t ht _ X hX
    have hX := hX trivial
    unfold pedagogueref10_ConvWeight_n3_B
    rw [if_pos (decide_eq_true (show (t : Int) < (l.length : Int) by omega))]
    dsimp only at hX ⊢
    refine ⟨by omega, ?_⟩
    rw [Int.toNat_natCast]
    obtain ⟨a, r, q, ez, ha, hr, hq⟩ := hl (l.getD t (0, 0, 0)) (by rw [List.getD_eq_getElem?_getD, List.getElem?_eq_getElem ht]; exact List.getElem_mem ht)
    simp only [sumTo, ez] at hX
    rw [ez]
    refine rw4_v h hH hV hy hz ha hr hq hn hC hO ?_
    rw [wrap_i64 ((t : Int) + 1) (by omega) (by omega)]
    have ef : (w4 O C K K fun o' c' r' q' => (f o' c' r' q' + sumTo (fun t => wtZ n O C P Q (H * V) gd xd (y * Q + z) o' c' r' q' (l.getD t (0, 0, 0))) t) + if r' = r ∧ q' = q then wtM n O C P Q (H * V) gd xd (y * Q + z) o' c' a else 0) = w4 O C K K fun o' c' r' q' => f o' c' r' q' + (sumTo (fun t => wtZ n O C P Q (H * V) gd xd (y * Q + z) o' c' r' q' (l.getD t (0, 0, 0))) t + wtZ n O C P Q (H * V) gd xd (y * Q + z) o' c' r' q' (↑a, ↑r, ↑q)) := by
      refine w4_congr fun o' c' r' q' _ _ _ _ => ?_
      rw [Int.add_assoc]
      congr 2
      unfold wtZ
      dsimp only
      rw [Int.toNat_natCast]
      by_cases g : r' = r ∧ q' = q
      · rw [if_pos g, if_pos (by omega)]
      · rw [if_neg g, if_neg (by omega)]
    rw [ef]
    exact hX
  · intro _ X
    unfold pedagogueref10_ConvWeight_n3_B
    rw [if_neg (by simp)]
    dsimp only
    have : (w4 O C K K fun o' c' r' q' => f o' c' r' q' + sumTo (fun t => wtZ n O C P Q (H * V) gd xd (y * Q + z) o' c' r' q' (l.getD t (0, 0, 0))) l.length) = w4 O C K K fun o' c' r' q' => f o' c' r' q' + lsum l (wtZ n O C P Q (H * V) gd xd (y * Q + z) o' c' r' q') :=
      w4_congr fun o' c' r' q' _ _ _ _ => by rw [lsum_getD l _ (0, 0, 0)]
    rw [this]
    exact hk
/-- What the windows of a row add. -/
def wtR (n O C K P Q H V : Nat) (s p : Int) (gd xd : List Int) (y o c r q : Nat) (m : Nat) : Int := sumTo (fun z => lsum (windowF H V y z K s p) (wtZ n O C P Q (H * V) gd xd (y * Q + z) o c r q)) m
theorem rw2_v {s p : Int} (h : WtIn n O C K P Q (H * V) gd xd) (hH : 1 ≤ H) (hV : 1 ≤ V) {f : Nat → Nat → Nat → Nat → Int} {y : Nat} {K0 : List Int → Prop} (hy : y < P) (hK : K ≤ 5) (hn : n ≤ 8192) (hC : C ≤ 8192) (hO : O ≤ 8192) (hQ : Q ≤ 8192)
    (hk : K0 (w4 O C K K fun o' c' r' q' => f o' c' r' q' + wtR n O C K P Q H V s p gd xd y o' c' r' q' Q)) :
    pedagogueref10_ConvWeight_n2 K s p n O C H V P Q y Q gd xd K0 (0, w4 O C K K f) := by
  have hKK : K * K ≤ 5 * 5 := Nat.mul_le_mul hK hK
  refine ⟨?_⟩
  have eg : ((0 : Int), w4 O C K K f) = (fun j : Nat => ((j : Int), w4 O C K K fun o' c' r' q' => f o' c' r' q' + wtR n O C K P Q H V s p gd xd y o' c' r' q' j)) 0 := by
    dsimp only
    congr 1
    refine w4_congr fun o' c' r' q' _ _ _ _ => ?_
    simp [wtR, sumTo]
  rw [eg]
  refine Loop.range (B := pedagogueref10_ConvWeight_n2_B K s p n O C H V P Q y Q gd xd K0) (f := fun j : Nat => ((j : Int), w4 O C K K fun o' c' r' q' => f o' c' r' q' + wtR n O C K P Q H V s p gd xd y o' c' r' q' j)) Q (fun _ => True) trivial ?_ ?_
  · intro z hz _ X hX
    have hX := hX trivial
    unfold pedagogueref10_ConvWeight_n2_B
    rw [if_pos (decide_eq_true (show (z : Int) < (Q : Int) by omega))]
    dsimp only at hX ⊢
    refine rwindow_v ?_
    have hwl := windowF_len (rows := H) (cols := V) (r := y) (c := z) (s := s) (p := p) (K := K)
    refine rw3_v h hH hV hy hz windowF_in (by omega) hn hC hO ?_
    rw [wrap_i64 ((z : Int) + 1) (by omega) (by omega)]
    have ef : (w4 O C K K fun o' c' r' q' => (f o' c' r' q' + wtR n O C K P Q H V s p gd xd y o' c' r' q' z) + lsum (windowF H V y z K s p) (wtZ n O C P Q (H * V) gd xd (y * Q + z) o' c' r' q')) = w4 O C K K fun o' c' r' q' => f o' c' r' q' + wtR n O C K P Q H V s p gd xd y o' c' r' q' (z + 1) :=
      w4_congr fun o' c' r' q' _ _ _ _ => by rw [Int.add_assoc]; rfl
    rw [ef]
    exact hX
  · intro _ X
    unfold pedagogueref10_ConvWeight_n2_B
    rw [if_neg (by simp)]
    exact hk
theorem rw1_v {s p : Int} (h : WtIn n O C K P Q (H * V) gd xd) (hH : 1 ≤ H) (hV : 1 ≤ V) {K0 : List Int → Prop} (hK : K ≤ 5) (hn : n ≤ 8192) (hC : C ≤ 8192) (hO : O ≤ 8192) (hQ : Q ≤ 8192) (hP : P ≤ 8192)
    (hk : K0 (w4 O C K K (wtCell n O C K P Q H V s p gd xd))) :
    pedagogueref10_ConvWeight_n1 K s p n O C H V P Q P gd xd K0 (0, w4 O C K K fun _ _ _ _ => 0) := by
  refine ⟨?_⟩
  refine Loop.range (B := pedagogueref10_ConvWeight_n1_B K s p n O C H V P Q P gd xd K0) (f := fun j : Nat => ((j : Int), w4 O C K K fun o' c' r' q' => sumTo (fun y => wtR n O C K P Q H V s p gd xd y o' c' r' q' Q) j)) P (fun _ => True) trivial ?_ ?_
  · intro y hy _ X hX
    have hX := hX trivial
    unfold pedagogueref10_ConvWeight_n1_B
    rw [if_pos (decide_eq_true (show (y : Int) < (P : Int) by omega))]
    dsimp only at hX ⊢
    refine rw2_v h hH hV hy hK hn hC hO hQ ?_
    rw [wrap_i64 ((y : Int) + 1) (by omega) (by omega)]
    exact hX
  · intro _ X
    unfold pedagogueref10_ConvWeight_n1_B
    rw [if_neg (by simp)]
    dsimp only
    have : (w4 O C K K fun o' c' r' q' => sumTo (fun y => wtR n O C K P Q H V s p gd xd y o' c' r' q' Q) P) = w4 O C K K (wtCell n O C K P Q H V s p gd xd) := by
      refine w4_congr fun o' c' r' q' _ _ _ _ => ?_
      unfold wtCell
      rw [← sumTo_rows]
      refine sumTo_congr fun y hy => ?_
      unfold wtR
      refine sumTo_congr fun z hz => ?_
      rw [ix_div hz, ix_mod hz]
    rw [this]
    exact hk
end

theorem weightF_err1 {g x : T3} {k s p : Int} (hm : ([g, x].all mayF) = false) : weightF g x k s p = (Z3, 1) := by
  have hE : wtE g x k s p = 1 := by
    unfold wtE
    rw [cmayF2_err hm]; rfl
  unfold weightF
  rw [hE]; rfl
theorem weightF_err2 {g x : T3} {k s p : Int} (hm : ([g, x].all mayF) = true) (hl : ¬ ((g.1.length : Int) = 4 ∧ (x.1.length : Int) = 4) ∨ wtBad g x k s p = true) : weightF g x k s p = (Z3, 2) := by
  have hm' := hm
  rw [all2] at hm'
  simp only [Bool.and_eq_true] at hm'
  have hE : wtE g x k s p = 2 := by
    unfold wtE
    by_cases h2 : (g.1.length : Int) = 4 ∧ (x.1.length : Int) = 4
    · rw [cmayF_of (fun t ht => by
        rcases List.mem_cons.1 ht with e | e
        · subst e; exact ⟨hm'.1, h2.1⟩
        · rcases List.mem_singleton.1 e with rfl
          exact ⟨hm'.2, h2.2⟩)]
      rcases hl with hl | hl
      · exact absurd h2 hl
      · rw [hl]; rfl
    · rw [cmayF2_len hm h2]; rfl
  unfold weightF
  rw [hE]; rfl
theorem rweight_v {g x : T3} {k s p : Int} {Q : T3 × Int → Prop} (ag : All8 g.2.2) (ax : All8 x.2.2) (hq : Q (weightF g x k s p)) : pedagogueref10_ConvWeight g x k s p Q := by
  refine ⟨?_⟩
  unfold pedagogueref10_ConvWeight_t
  refine rmay_v (by simp) ?_
  show (if (!([g, x].all mayF)) = true then _ else _)
  cases hm : [g, x].all mayF with
  | false => rw [weightF_err1 hm] at hq; exact hq
  | true =>
    rw [if_neg (by simp)]
    refine orb_v (b := ((g.1.length : Int) != 4) || ((x.1.length : Int) != 4)) (c := g.1.getD 0 0 != x.1.getD 0 0) (fun hb P hp => ?_) (fun v2 e2 => ?_) rfl
    · simp only [Bool.or_eq_false_iff, bne_f] at hb
      exact ⟨by omega, by omega, hp⟩
    · cases v2 with
      | true =>
        rw [if_pos rfl]
        rw [weightF_err2 hm] at hq
        · exact hq
        · by_cases g1 : (g.1.length : Int) = 4 ∧ (x.1.length : Int) = 4
          · right
            have e2 := e2.symm
            simp only [Bool.or_eq_true, bne_iff_ne, ne_eq] at e2
            unfold wtBad
            simp only [Bool.or_eq_true, bne_iff_ne, ne_eq]
            have : g.1.getD 0 0 = x.1.getD 0 0 ↔ x.1.getD 0 0 = g.1.getD 0 0 := eq_comm
            grind
          · left; exact g1
      | false =>
        rw [if_neg (by simp)]
        have e2 := e2.symm
        simp only [Bool.or_eq_false_iff, bne_f] at e2
        obtain ⟨⟨l1, l2⟩, c1⟩ := e2
        have hm2 := hm
        rw [all2] at hm2
        simp only [Bool.and_eq_true] at hm2
        refine ⟨by omega, by omega, by omega, by omega, by omega, rplane_v ?_⟩
        have r1 := outF_rng (x.1.getD 2 0) k s p
        have r2 := outF_rng (x.1.getD 3 0) k s p
        refine orb_v (b := (outF (x.1.getD 2 0) k s p == 0) || (outF (x.1.getD 3 0) k s p == 0)) (c := outF (x.1.getD 2 0) k s p != g.1.getD 2 0) (fun hb P hp => ⟨by omega, hp⟩) (fun v5 e5 => ?_) rfl
        refine orb_v (c := outF (x.1.getD 3 0) k s p != g.1.getD 3 0) (fun hb P hp => ⟨by omega, hp⟩) (fun v7 e7 => ?_) rfl
        have hbad : wtBad g x k s p = v7 := by
          rw [e7, e5, Bool.eq_iff_iff]
          unfold wtBad
          simp only [Bool.or_eq_true, Bool.not_eq_true', Bool.and_eq_false_iff, decide_eq_false_iff_not, bne_iff_ne, ne_eq, beq_iff_eq]
          have : g.1.getD 2 0 = outF (x.1.getD 2 0) k s p ↔ outF (x.1.getD 2 0) k s p = g.1.getD 2 0 := eq_comm
          have : g.1.getD 3 0 = outF (x.1.getD 3 0) k s p ↔ outF (x.1.getD 3 0) k s p = g.1.getD 3 0 := eq_comm
          grind
        cases v7 with
        | true =>
          rw [if_pos rfl]
          rw [weightF_err2 hm (.inr hbad)] at hq
          exact hq
        | false =>
          rw [if_neg (by simp)]
          have hb2 := hbad
          unfold wtBad at hb2
          simp only [Bool.or_eq_false_iff, bne_f, Bool.not_eq_false', Bool.and_eq_true, decide_eq_true_eq] at hb2
          obtain ⟨⟨⟨⟨o1, o2⟩, d1⟩, d2⟩, d3⟩ := hb2
          obtain ⟨n, O, P, R, eg, g1, g2, g3, g4, g5, g6, g7, g8⟩ := may4 hm2.1 l1
          obtain ⟨n', C, H, V, ex, x1, x2, x3, x4, x5, x6, x7, x8⟩ := may4 hm2.2 l2
          simp only [eg, ex, List.getD_cons_zero, List.getD_cons_succ] at o1 o2 d1 d2 d3 ⊢
          have en : n' = n := by omega
          subst en
          obtain ⟨a1, a2, a3, a4, a5, a6⟩ := out_ok o1
          obtain ⟨f1, _⟩ := out_ok o2
          obtain ⟨K, rfl⟩ := Int.eq_ofNat_of_zero_le (show 0 ≤ k by omega)
          have k1 : n' ≤ n' * O := Nat.le_mul_of_pos_right _ (by omega)
          have k2 : n' * P * R ≤ 8192 := by
            have e1 : n' * P * R ≤ n' * O * P * R := Nat.mul_le_mul_right _ (Nat.mul_le_mul_right _ k1)
            omega
          have k3 : n' * P ≤ n' * P * R := Nat.le_mul_of_pos_right _ (by omega)
          have k4 : n' ≤ n' * P := Nat.le_mul_of_pos_right _ (by omega)
          have k5 : P ≤ n' * P := Nat.le_mul_of_pos_left _ (by omega)
          have k6 : R ≤ n' * P * R := Nat.le_mul_of_pos_left _ (Nat.mul_pos (by omega) (by omega))
          have k7 : O ≤ n' * O := Nat.le_mul_of_pos_left _ (by omega)
          have k8 : n' * O ≤ n' * O * P := Nat.le_mul_of_pos_right _ (by omega)
          have k9 : n' * O * P ≤ n' * O * P * R := Nat.le_mul_of_pos_right _ (by omega)
          have ka : C ≤ n' * C := Nat.le_mul_of_pos_left _ (by omega)
          have kb : n' * C ≤ n' * C * H := Nat.le_mul_of_pos_right _ (by omega)
          have kc : n' * C * H ≤ n' * C * H * V := Nat.le_mul_of_pos_right _ (by omega)
          rw [← d2, ← d3, mulw (r := n') (n := P) (by omega), mulw (r := n' * P) (n := R) (by omega), wrap_i64 (g.2.1 + x.2.1) (by omega) (by omega)]
          refine rsums_v ⟨?_⟩
          unfold pedagogueref10_ConvWeight_n0_t
          have hE : wtE g x K s p = (sumsF [(O : Int), (C : Int), (K : Int), (K : Int)] (g.2.1 + x.2.1) ((n' * P * R : Nat) : Int)).2 := by
            unfold wtE
            rw [hbad, cmayF_of (fun t ht => by
              rcases List.mem_cons.1 ht with e | e
              · subst e; exact ⟨hm2.1, l1⟩
              · rcases List.mem_singleton.1 e with rfl
                exact ⟨hm2.2, l2⟩)]
            simp only [Bool.false_eq_true, if_false, bne_self_eq_false]
            unfold wtDims wtN
            simp only [eg, ex, List.getD_cons_zero, List.getD_cons_succ, Int.natCast_mul]
          unfold weightF at hq
          rw [hE] at hq
          by_cases h9 : (sumsF [(O : Int), (C : Int), (K : Int), (K : Int)] (g.2.1 + x.2.1) ((n' * P * R : Nat) : Int)).2 = 0
          · obtain ⟨f1', f2, f3, f4⟩ := sumsF_ok h9
            rw [f4] at hq ⊢
            simp only [bne_self_eq_false, Bool.false_eq_true, if_false] at hq ⊢
            obtain ⟨q1, q2, q3, q4, e1, e2, e3, e4, _, _, _, _, s5, s6⟩ := szF4 f3
            have t1 : q1 = O := by omega
            have t2 : q2 = C := by omega
            have t3 : q3 = K := by omega
            have t4 : q4 = K := by omega
            subst t1 t2 t3 t4
            have w : WtIn n' q1 q2 q4 P R (H * V) g.2.2 x.2.2 := ⟨by omega, by rw [x6]; exact Nat.mul_assoc _ _ _, g5, by rw [← Nat.mul_assoc]; exact x5, s5, ag, ax, by omega, by omega, by omega, by omega, by omega⟩
            rw [s6, Int.toNat_natCast, zeros4]
            refine rw1_v w (by omega) (by omega) (by omega) (by omega) (by omega) (by omega) (by omega) (by omega) ?_
            unfold wtDims wtData at hq
            simp only [eg, ex, List.getD_cons_zero, List.getD_cons_succ, Int.toNat_natCast] at hq
            exact hq
          · rw [if_pos (by simpa using h9)]
            rw [if_pos (by simpa using h9)] at hq
            rw [sumsF_err h9]
            exact hq

/-! ### ConvForms -/
theorem light_v {l : List T3} {Q : Bool → Prop} (hl : l.length ≤ 1000000) (h : ∀ b, Q b) : pedagoguelaw11_light l Q := by
  refine ⟨?_⟩
  unfold pedagoguelaw11_light_t
  refine ⟨?_⟩
  refine Loop.rangeI (B := pedagoguelaw11_light_n0_B l (l.length : Int) _) l.length (fun i st => st.2 = (i : Int)) rfl ?_ ?_
  · rintro i hi ⟨acc, i'⟩ e1 X hX
    simp only at e1
    subst e1
    unfold pedagoguelaw11_light_n0_B
    rw [if_pos (decide_eq_true (show (i : Int) < (l.length : Int) by omega))]
    dsimp only
    refine ⟨by omega, hX _ ?_⟩
    dsimp only
    rw [wrap_i64 _ (by omega) (by omega)]; simp
  · rintro ⟨acc, i'⟩ e1 X
    simp only at e1
    subst e1
    unfold pedagoguelaw11_light_n0_B
    rw [if_neg (by simp)]
    exact h _
theorem bd_of_sums {d : List Int} {e n : Int} {D : List Int} (h : 0 < szF d) (hD : (D.length : Int) = szF d) : d.length ≤ 1000000 ∧ D.length ≤ 1000000 := by
  obtain ⟨h1, _⟩ := szF_inv h
  have := szF_le d
  omega
theorem convF_small (x w b : T3) (s p : Int) : (convF x w b s p).1.1.length ≤ 1000000 ∧ (convF x w b s p).1.2.2.length ≤ 1000000 := by
  unfold convF
  split
  · exact ⟨by simp, by simp⟩
  · rename_i h
    have h0 : convE x w b s p = 0 := by simpa using h
    unfold convE at h0
    split at h0
    · cases h0
    · split at h0
      · rename_i h2
        simp at h2; exact absurd h0 h2
      · split at h0
        · cases h0
        · obtain ⟨_, _, f3, _⟩ := sumsF_ok h0
          unfold convDims at f3
          obtain ⟨n, m, q, r, e1, e2, e3, e4, _, _, _, _, s5, _⟩ := szF4 f3
          refine ⟨by show (convDims x w s p).length ≤ _; unfold convDims; simp, ?_⟩
          show (convData x w b s p).length ≤ _
          unfold convData
          rw [lst4_len, e1, e2, e3, e4]
          simp only [Int.toNat_natCast]
          omega
theorem inputF_small (g w : T3) (h v s p : Int) : (inputF g w h v s p).1.1.length ≤ 1000000 ∧ (inputF g w h v s p).1.2.2.length ≤ 1000000 := by
  unfold inputF
  split
  · exact ⟨by simp, by simp⟩
  · rename_i hh
    have h0 : inE g w h v s p = 0 := by simpa using hh
    unfold inE at h0
    split at h0
    · rename_i h2
      simp at h2; exact absurd h0 h2
    · split at h0
      · cases h0
      · obtain ⟨_, _, f3, _⟩ := sumsF_ok h0
        unfold inDims at f3
        obtain ⟨n, m, q, r, e1, e2, e3, e4, _, _, _, _, s5, _⟩ := szF4 f3
        refine ⟨by show (inDims g w h v).length ≤ _; unfold inDims; simp, ?_⟩
        show (inData g w h v s p).length ≤ _
        unfold inData
        rw [lst4_len, e1, e2, e3, e4]
        simp only [Int.toNat_natCast]
        omega
theorem weightF_small (g x : T3) (k s p : Int) : (weightF g x k s p).1.1.length ≤ 1000000 ∧ (weightF g x k s p).1.2.2.length ≤ 1000000 := by
  unfold weightF
  split
  · exact ⟨by simp, by simp⟩
  · rename_i hh
    have h0 : wtE g x k s p = 0 := by simpa using hh
    unfold wtE at h0
    split at h0
    · rename_i h2
      simp at h2; exact absurd h0 h2
    · split at h0
      · cases h0
      · obtain ⟨_, _, f3, _⟩ := sumsF_ok h0
        unfold wtDims at f3
        obtain ⟨n, m, q, r, e1, e2, e3, e4, _, _, _, _, s5, _⟩ := szF4 f3
        refine ⟨by show (wtDims g x k).length ≤ _; unfold wtDims; simp, ?_⟩
        show (wtData g x k s p).length ≤ _
        unfold wtData
        rw [w4_len, e1, e2, e3]
        have : q = r := by omega
        subst this
        simp only [Int.toNat_natCast]
        omega
theorem biasF_small (g : T3) : (biasF g).1.1.length ≤ 1000000 ∧ (biasF g).1.2.2.length ≤ 1000000 := by
  unfold biasF
  split
  · exact ⟨by simp, by simp⟩
  · rename_i hh
    have h0 : bsE g = 0 := by simpa using hh
    unfold bsE at h0
    split at h0
    · rename_i h2
      simp at h2; exact absurd h0 h2
    · obtain ⟨_, _, f3, _⟩ := sumsF_ok h0
      obtain ⟨f1, f2, _⟩ := szF1 f3
      refine ⟨by simp, ?_⟩
      show (bsData g).length ≤ _
      unfold bsData
      rw [tab_len]
      omega

theorem forms_v {x w b g : T3} {rows cols k s p : Int} {Q : Bool → Prop} (ax : All8 x.2.2) (aw : All8 w.2.2) (ab : All8 b.2.2) (ag : All8 g.2.2) (hq : Q true) : pedagoguelaw11_ConvForms x w b g rows cols k s p Q := by
  refine ⟨?_⟩
  unfold pedagoguelaw11_ConvForms_t
  refine light_v (by simp) fun v => ?_
  cases v with
  | false => exact awake_v hq
  | true =>
    rw [if_neg (by simp)]
    refine conv_v ax aw ab (rconv_v ax aw ab (input_v ag aw ⟨?_⟩))
    unfold pedagoguelaw11_ConvForms_n0_t
    refine rinput_v ag aw (weight_v ag ax (rweight_v ag ax (bias_v ag ⟨?_⟩)))
    unfold pedagoguelaw11_ConvForms_n1_t
    refine rbias_v ag ?_
    have c1 := convF_small x w b s p
    have c2 := inputF_small g w rows cols s p
    have c3 := weightF_small g x k s p
    have c4 := biasF_small g
    refine sacc_v c1.1 c1.2 ?_
    rw [decide_eq_true rfl]
    refine and_v (b := true && ((convF x w b s p).2 == (convF x w b s p).2)) (c := true) (fun _ P hp => sacc_v c2.1 c2.2 (by rw [decide_eq_true rfl]; exact hp)) (fun v1 e1 => ?_) rfl
    refine and_v (b := v1 && ((inputF g w rows cols s p).2 == (inputF g w rows cols s p).2)) (c := true) (fun _ P hp => sacc_v c3.1 c3.2 (by rw [decide_eq_true rfl]; exact hp)) (fun v2 e2 => ?_) rfl
    refine and_v (b := v2 && ((weightF g x k s p).2 == (weightF g x k s p).2)) (c := true) (fun _ P hp => sacc_v c4.1 c4.2 (by rw [decide_eq_true rfl]; exact hp)) (fun v3 e3 => ?_) rfl
    refine and_v (b := v3 && ((biasF g).2 == (biasF g).2)) (c := true) (fun _ P hp => awake_v hp) (fun v4 e4 => ?_) rfl
    rw [e4, e3, e2, e1]
    simpa using hq

end Go.Proofs.Ytmleeffinagncaa
