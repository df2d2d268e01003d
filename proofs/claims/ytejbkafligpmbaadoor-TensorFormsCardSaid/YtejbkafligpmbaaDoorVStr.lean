/- strconv.Itoa and strings.Join as the value machine calls them. No condition. -/
import Derived.Test.YtejbkafligpmbaaDoorVTold
import Derived.Test.YtejbkafligpmbaaDoorProg
namespace Go.Mach
open Go.Proofs
set_option linter.unusedVariables false
set_option linter.unusedSimpArgs false

theorem callN_ext {f : FuncId} (h3 : (Tryd.prog.funcs[f]?.bind fun fn => fn.body.map fun c => okF f fn c) = some false) {fl : Nat} {args : Array Value} {H : AHeap} {r : Value × AHeap} (h : extF Tryd.prog fl f args H = some r) :
    callN Tryd.prog 1 fl f args H = some r := by
  simp only [callN]
  cases h5 : Tryd.prog.funcs[f]? with
  | none => rw [h5] at h3; cases h3
  | some fn =>
    cases h6 : fn.body with
    | none => rw [h5] at h3; simp [h6] at h3
    | some c =>
      rw [h5] at h3
      simp only [Option.bind_some, h6, Option.map_some, Option.some.injEq] at h3
      simp only [h6, h3, Bool.false_and, Bool.false_eq_true, if_false]
      exact h

theorem itoa_snd (n : Int) (Q : List (Bool × List VV) → Prop) (hb : -9223372036854775808 ≤ n ∧ n ≤ 9223372036854775807) (h : Q [(false, [.pl (.string (itoaS n))])]) :
    Sound Tryd.prog extI [.pl (.int .i64 n)] Q := by
  intro F fl H az hF hfl ha
  cases ha with
  | cons h1 ht =>
  cases ht
  obtain ⟨rfl, _⟩ := h1
  refine ⟨1, _, _, callN_ext (by kernel_rfl) (show (if extI = extI ∧ _ ∧ _ then _ else _) = some (wrap1 [Value.string (itoaS n)], H) from by rw [if_pos ⟨rfl, hb⟩]; rfl), _, h, .inl ⟨ctxF F H noHs, [], [.string (itoaS n)], ctxF_ok F H noHs hF, XS.one (is := []) (XR.pl rfl XR.nil) XS.nil, List.nodup_nil, rfl⟩⟩

theorem strsA_row {F : Fz} {H : AHeap} (hF : ∀ b B, F b = some B → blk? H b = some B) {b o : Nat} {B : Blk} (hB : F b = some B) : ∀ (n : Nat) (l : List ByteArray), l.length = n →
    (∀ (i : Nat) x, l[i]? = some x → ∃ cs, InB B.cells (o + i * 1) 1 cs ∧ RT F .str x cs) → strsA H b o n = some l
  | 0, l, hl, _ => by
    have : l = [] := List.length_eq_zero_iff.1 hl
    subst this; rfl
  | n + 1, l, hl, he => by
    rcases List.eq_nil_or_concat l with rfl | ⟨l1, x, rfl⟩
    · simp at hl
    have hn : l1.length = n := by simpa using hl
    have h1 : strsA H b o n = some l1 := strsA_row hF hB n l1 hn (fun i y hy => he i y (by
      have := (List.getElem?_eq_some_iff.1 hy).1
      simp only [List.concat_eq_append]
      rw [List.getElem?_append_left this]; exact hy))
    obtain ⟨cs, hin, rfl⟩ := he n x (by simp [← hn])
    have hc : B.cells[o + n]? = some (.string x) := by
      obtain ⟨k1, k2⟩ := hin
      have hlt : o + n < B.cells.length := by omega
      rw [List.drop_eq_getElem_cons (by omega), List.take_succ_cons] at k2
      simp only [List.take_zero, List.cons.injEq, and_true] at k2
      rw [List.getElem?_eq_getElem hlt]
      simp only [Nat.mul_one] at k2
      rw [k2]
    have h2 : cellAt H ⟨b, o + n, none⟩ = some (.string x) := by
      unfold cellAt
      simp only [hF _ _ hB, hc]
      rfl
    simp only [strsA, h1, h2, List.concat_eq_append]

theorem join_snd (l : List ByteArray) (s : ByteArray) (Q : List (Bool × List VV) → Prop) (hb : l.length ≤ 140737488355328 ∧ (joinS l s).size ≤ 140737488355328) (h : Q [(false, [.pl (.string (joinS l s))])]) :
    Sound Tryd.prog extJ [.fz false .str l, .pl (.string s)] Q := by
  intro F fl H az hF hfl ha
  cases ha with
  | cons h1 ht =>
  cases ht with
  | cons h2 ht =>
  cases ht
  obtain ⟨rfl, _⟩ := h2
  obtain ⟨ad, kc, rfl, hsl⟩ := h1
  have key : extF Tryd.prog fl extJ #[.slice ad l.length kc, .string s] H = some (.string (joinS l s), H) := by
    have hIJ : True := trivial
    simp only [extF, if_true]
    rcases hsl.at_ with h0 | ⟨b, o, B, rfl, hB, hex, hel⟩
    · subst h0
      rfl
    · cases hl : l with
      | nil => rfl
      | cons x r =>
        rw [← hl]
        have h3 : strsA H b o l.length = some l := by
          refine strsA_row hF (B := B) ?_ l.length l rfl (fun i x hx => ?_)
          · first | exact hB | exact cutF_le _ _ hB
          · obtain ⟨cs, q1, q2⟩ := hel i x hx
            exact ⟨cs, q1, q2⟩
        have h4 : l.length = r.length + 1 := by rw [hl]; rfl
        rw [h4]
        rw [h4] at h3
        simp only [h3]
        rw [if_pos ⟨by omega, hb.2⟩]
  exact ⟨1, _, _, callN_ext (by kernel_rfl) key, _, h, .inl ⟨ctxF F H noHs, [], [.string (joinS l s)], ctxF_ok F H noHs hF, XS.one (is := []) (XR.pl rfl XR.nil) XS.nil, List.nodup_nil, rfl⟩⟩

end Go.Mach
