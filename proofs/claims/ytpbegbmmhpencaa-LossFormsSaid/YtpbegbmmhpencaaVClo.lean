/- A function that hands back a closure; slices.Collect of a closure of slices.Chunk: its parts. No condition. -/
import Derived.Test.YtpbegbmmhpencaaVTold
import Derived.Test.YtpbegbmmhpencaaProg
namespace Go.Mach
open Go.Proofs
set_option linter.unusedVariables false
set_option linter.unusedSimpArgs false
set_option linter.unusedSectionVars false

def closeB (h : List VO) (Q : List (Bool × List VV) → Prop) (vs : List VV) : Prop :=
  match vs with
  | [.fn g l] => match (l.map (lend1 h)).all roB with
    | true => Q [(false, [.fn g (l.map (lend1 h))])]
    | false => False
  | _ => False

def vfunC (G : Cfg) (ct : Tab) (en : Ends) (fn : Func) (c : Code) (args : List VV) (Q : List (Bool × List VV) → Prop) : Prop :=
  cutE ct 1 (vwp G ct en c 1) ⟨startV args, []⟩ fun e s => match e with
    | .normal | .ret => vres G s fn.results.toList (closeB s.h Q)
    | _ => False

section
variable {G : Cfg}
/-- A function that hands back a closure. -/
theorem vfunC_sound {ct : Tab} {en : Ends} {f : FuncId} {fn : Func} {cd : Code} {args : List VV} {Q : List (Bool × List VV) → Prop}
    (hf : G.P.funcs[f]? = some fn) (hb : fn.body = some cd) (hfo : funcOk fn cd = true) (hsz : args.length ≤ fn.ntmps) (htab : TabOk G ct en cd) (hO : ∀ f args Q, G.O f args Q → Sound G.P f args Q)
    (hv : vfunC G ct en fn cd args Q) : Sound G.P f args Q := by
  intro F fl H az hF hfl ha
  refine W_call hf hb hfo (by simp; rw [← ha.len]; exact hsz) ?_
  have hco : codeOk fn.ntmps cd = true := by
    unfold funcOk at hfo
    simp only [Bool.and_eq_true] at hfo
    exact hfo.1.1
  have hr : RelE F H noHs ⟨startV args, []⟩ (start az.toArray) H := ⟨ctxF F H noHs, rfl, rfl, ctxF_ok F H noHs hF, startV_tok ha⟩
  have he : EnvF G H noHs fl := ⟨hO, hfl⟩
  unfold vfunC at hv
  have key : ∃ s', RelE F H noHs s' (start az.toArray) H ∧ vwp G ct en cd 1 s' (fun e s => match e with
      | .normal | .ret => vres G s fn.results.toList (closeB s.h Q)
      | _ => False) := by
    unfold cutE at hv
    split at hv
    · rename_i E hE
      obtain ⟨y, h1, h2⟩ := toSh_sound hr hv
      exact ⟨_, h2, (htab 1 E hE 1 cd rfl y _ h1).it⟩
    · exact ⟨_, hr, hv⟩
  obtain ⟨s', hr', hv'⟩ := key
  refine vwp_sound (n := fn.ntmps) he htab cd 1 (Nat.le_refl _) ⟨1, rfl⟩ hco hr' hv' ?_
  intro e s2 ta2 H2 hr2 hk
  have fin : (vres G s2 fn.results.toList (closeB s2.h Q)) → ∃ vs, resultAll G.P ta2 H2 fn.results.toList = some vs ∧ ∃ sl, Q sl ∧ ResOk F H H2 sl (wrap1 vs) := by
    intro hk
    obtain ⟨c2, hc2, hrel⟩ := hr2
    obtain ⟨vs, az2, h1, h2, h3⟩ := vres_sound hrel hk
    refine ⟨az2, h3, ?_⟩
    unfold closeB at h1
    split at h1
    case h_2 => exact h1.elim
    rename_i g l
    split at h1
    case h_2 => exact h1.elim
    rename_i hro
    cases h2 with
    | cons h2 ht =>
      cases ht
      rename_i a
      have hok := hrel.2.1
      obtain ⟨c1, k1, k2, kn, kρ, k3, _⟩ := hok.freezes (lendI c2.h (.fn g l))
      have hl : R2 (ctxF c1.F H2 noHs) (lend c1.h (.fn g l)) a := lend_rel k3 (fun i hi => by
        rw [k2] at hi ⊢
        exact freeze_fr _ _ (lendI_freeze _ _ _ i hi)) (R2.mono k1 _ _ h2)
      rw [k2, lend_freeze] at hl
      have hs2 : s2.h = c2.h := hrel.1.symm
      rw [hs2] at h1 hro
      obtain ⟨az3, g1, g2⟩ := hl
      exact ⟨_, h1, .inr ⟨g, _, c1, rfl, k3, hro, az3, g1, roB_exts (c := ctxF c1.F H2 noHs) (c2 := c1) (Fz.ext_refl c1.F) hro g2⟩⟩
  cases e with
  | normal => exact fin hk
  | ret => exact fin hk
  | _ => exact hk.elim

theorem vfunC_told {ct : Tab} {en : Ends} {f : FuncId} {fn : Func} {cd : Code} {args : List VV} {Q : List (Bool × List VV) → Prop} {R : Prop}
    (hf : G.P.funcs[f]? = some fn) (hb : fn.body = some cd) (hfo : funcOk fn cd = true) (hsz : args.length ≤ fn.ntmps) (htab : TabOk G ct en cd) (hO : ∀ f args Q, G.O f args Q → Sound G.P f args Q)
    (h : R) (e : vfunC G ct en fn cd args Q = R) : Sound G.P f args Q :=
  vfunC_sound hf hb hfo hsz htab hO (e.symm ▸ h)
end

/-- The parts of a list. -/
def chunksF {α : Type} (l : List α) (m : Nat) : List (List α) := (List.range ((l.length + m - 1) / m)).map fun k => (l.take (k * m + m)).drop (k * m)

/-- slices.AppendSeq. -/
theorem appendSeq_snd (l : List Int) (m : Nat) (Q : List (Bool × List VV) → Prop) (hb : 1 ≤ l.length ∧ l.length ≤ 16777216 ∧ 1 ≤ m ∧ m ≤ 16777216)
    (h : Q [(false, [.fz false (.slc (.int .i8)) (chunksF l m)])]) :
    Sound Try.prog extA [.pl (.slice none 0 0), .fn extC [.bx [.fz false (.int .i8) l] 0, .bx [.pl (.int .i64 (m : Int))] 0]] Q := by
  intro F fl H az hF hfl ha
  cases ha with
  | cons h1 ht =>
  cases ht with
  | cons h2 ht =>
  cases ht
  obtain ⟨rfl, _⟩ := h1
  obtain ⟨cs, rfl, hcs⟩ := h2
  cases hcs with
  | cons g1 ht =>
  cases ht with
  | cons g2 ht =>
  cases ht
  obtain ⟨b1, B1, rfl, hB1, hc1⟩ := g1
  obtain ⟨b2, B2, rfl, hB2, hc2⟩ := g2
  generalize hBc1 : B1.cells = cs1 at hc1
  generalize hBc2 : B2.cells = cs2 at hc2
  cases hc1 with
  | cons hs ht =>
  cases ht
  cases hc2 with
  | cons hn ht =>
  cases ht
  obtain ⟨rfl, _⟩ := hn
  obtain ⟨ad, kc, rfl, hsl⟩ := hs
  rcases hsl.at_ with h0 | ⟨b, o, B, rfl, hB, hex, hel⟩
  · subst h0; simp at hb
  have e1 : cellAt H ⟨b1, 0, none⟩ = some (.slice (some ⟨b, o, none⟩) l.length kc) := by
    unfold cellAt
    simp only [hF _ _ hB1, hBc1]
    rfl
  have e2 : cellAt H ⟨b2, 0, none⟩ = some (.int .i64 (m : Int)) := by
    unfold cellAt
    simp only [hF _ _ hB2, hBc2]
    rfl
  obtain ⟨cnt, hcnt⟩ : ∃ cnt, (l.length + m - 1) / m = cnt := ⟨_, rfl⟩
  have e3 : callN Try.prog 1 fl extA #[.slice none 0 0, .func (.func extC) #[] #[.pointer (some ⟨b1, 0, none⟩), .pointer (some ⟨b2, 0, none⟩)]] H =
      some (.slice (some ⟨H.length, 0, none⟩) cnt cnt, H ++ [⟨partsA b o l.length m, 1, false, true⟩]) := by
    have hfo : ∀ (fn : Func) (c : Code), Try.prog.funcs[extA]? = some fn → fn.body = some c → funcOk fn c = false := by
      intro fn c h1 h2
      have h3 : (Try.prog.funcs[extA]?.bind fun fn => fn.body.map fun c => funcOk fn c) = some false := by kernel_rfl
      rw [h1] at h3
      simp only [Option.bind_some, h2, Option.map_some, Option.some.injEq] at h3
      exact h3
    have h4 : (Try.prog.funcs[extA]?.bind fun fn => fn.body.map fun _ => true) = some true := by kernel_rfl
    simp only [callN]
    cases h5 : Try.prog.funcs[extA]? with
    | none => rw [h5] at h4; cases h4
    | some fn =>
      cases h6 : fn.body with
      | none => rw [h5] at h4; simp [h6] at h4
      | some c =>
        simp only [h6, hfo fn c h5 h6, Bool.false_and, Bool.false_eq_true, if_false]
        simp only [extF, chunkA, e1, e2, and_self, if_true]
        show (if 1 ≤ l.length ∧ l.length ≤ 16777216 ∧ 1 ≤ m ∧ m ≤ 16777216 then _ else _) = _
        rw [if_pos hb, hcnt]
  have hpl : (partsA b o l.length m).length = cnt := by simp [partsA, hcnt]
  have hcl : (chunksF l m).length = cnt := by simp [chunksF, hcnt]
  refine ⟨1, _, _, e3, _, h, .inl ⟨⟨H.length, fun x => if x = H.length then some ⟨partsA b o l.length m, 1, false, true⟩ else F x, fun _ => none, [], noHs⟩, [], [.slice (some ⟨H.length, 0, none⟩) cnt cnt], ?_, ?_, List.nodup_nil, rfl⟩⟩
  · refine ⟨rfl, Pre.push _ _, ?_, ?_, fun i o hi => (by simp at hi), fun i j b _ hi => (by cases hi), fun _ _ => rfl⟩
    · intro x X hX
      simp only at hX
      split at hX
      · rename_i hx; cases hX; subst hx; simp [blk?]
      · exact (Pre.push H _).blk (hF _ _ hX)
    · intro x hx
      show (if x = H.length then _ else F x) = F x
      rw [if_neg (by omega)]
  · refine XS.one (is := []) (XR.al ?_ XR.nil) XS.nil
    refine ⟨some ⟨H.length, 0, none⟩, cnt, by rw [hcl], by rw [hcl]; exact Nat.le_refl _, .inr ⟨H.length, 0, ⟨partsA b o l.length m, 1, false, true⟩, rfl, ?_, .inr rfl, ?_⟩⟩
    · show (if false = true ∧ _ then none else _) = _
      rw [if_neg (by simp)]
      show (if H.length = H.length then _ else _) = _
      rw [if_pos rfl]
    · intro i x hx
      have hi : i < cnt := by rw [← hcl]; exact (List.getElem?_eq_some_iff.1 hx).1
      have him : i * m < l.length := (cnt_iff l.length m hb.2.2.1 i).1 (by rw [hcnt]; exact hi)
      have hxe : x = (l.take (i * m + m)).drop (i * m) := by
        simp only [chunksF, hcnt, List.getElem?_map, List.getElem?_range hi, Option.map_some, Option.some.injEq] at hx
        exact hx.symm
      have hxl : x.length = min m (l.length - i * m) := by
        rw [hxe, List.length_drop, List.length_take]; omega
      have hlen : i * m + min m (l.length - i * m) ≤ l.length := by omega
      have hxe2 : x = (l.take (i * m + min m (l.length - i * m))).drop (i * m) := by
        rw [hxe]
        by_cases hq : i * m + m ≤ l.length
        · rw [Nat.min_eq_left (by omega)]
        · rw [List.take_of_length_le (by omega : l.length ≤ i * m + m), List.take_of_length_le (by omega : l.length ≤ i * m + min m (l.length - i * m))]
      refine ⟨[.slice (some ⟨b, o + i * m, none⟩) (min m (l.length - i * m)) (min m (l.length - i * m))], ⟨?_, ?_⟩, ?_⟩
      · show 0 + i * 1 + 1 ≤ (partsA b o l.length m).length
        rw [hpl]; omega
      · show ((partsA b o l.length m).drop (0 + i * 1)).take 1 = _
        have h7 : (partsA b o l.length m)[i]? = some (.slice (some ⟨b, o + i * m, none⟩) (min m (l.length - i * m)) (min m (l.length - i * m))) := by
          simp only [partsA, hcnt, List.getElem?_map, List.getElem?_range hi, Option.map_some]
        rw [Nat.zero_add, Nat.mul_one]
        have h8 := (List.getElem?_eq_some_iff.1 h7)
        obtain ⟨h9, h10⟩ := h8
        rw [List.drop_eq_getElem_cons h9, List.take_succ_cons, List.take_zero, h10]
      · refine ⟨some ⟨b, o + i * m, none⟩, min m (l.length - i * m), by rw [hxl], ?_⟩
        have hs2 : RSl (cutF false H.length F) (RT (cutF false H.length F) (.int .i8)) 1 (some ⟨b, o, none⟩) kc l := hsl
        have h11 := hs2.sub (lo := i * m) (hi := i * m + min m (l.length - i * m)) (by omega) hlen (m := i * m + min m (l.length - i * m)) (Nat.le_refl _)
        rw [Nat.mul_one, Nat.add_sub_cancel_left, ← hxe2] at h11
        refine h11.mono ?_ (fun x cs h => h)
        intro y Y hY
        have hY' := cutF_le _ _ hY
        show (if false = true ∧ _ then none else _) = _
        rw [if_neg (by simp)]
        show (if y = H.length then _ else F y) = some Y
        have := (hF _ _ hY')
        have hlt : y < H.length := blk?_lt (by rw [this]; rfl)
        rw [if_neg (by omega)]
        exact hY'

theorem appendSeq_sndI (l : List Int) (n : Int) (Q : List (Bool × List VV) → Prop) (hb : (1 ≤ l.length ∧ l.length ≤ 16777216) ∧ 1 ≤ n ∧ n ≤ 16777216)
    (h : Q [(false, [.fz false (.slc (.int .i8)) (chunksF l n.toNat)])]) :
    Sound Try.prog extA [.pl (.slice none 0 0), .fn extC [.bx [.fz false (.int .i8) l] 0, .bx [.pl (.int .i64 n)] 0]] Q := by
  obtain ⟨⟨h1, h2⟩, h3, h4⟩ := hb
  obtain ⟨m, rfl⟩ := Int.eq_ofNat_of_zero_le (show 0 ≤ n by omega)
  exact appendSeq_snd l m Q ⟨h1, h2, by omega, by omega⟩ h

end Go.Mach
