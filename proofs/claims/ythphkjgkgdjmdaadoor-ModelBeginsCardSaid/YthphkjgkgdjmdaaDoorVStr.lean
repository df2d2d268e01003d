/- strconv.Itoa, strconv.Atoi, strings.Cut and strings.Split as the value machine calls them. No condition. -/
import Derived.Test.YthphkjgkgdjmdaaDoorVTold
import Derived.Test.YthphkjgkgdjmdaaDoorProg
namespace Go.Mach
open Go.Proofs
set_option linter.unusedVariables false
set_option linter.unusedSimpArgs false

theorem callN_ext {f : FuncId} (h3 : (Tryd.prog.funcs[f]?.bind fun fn => (bod fn).map fun c => okF f fn c) = some false) {fl : Nat} {args : Array Value} {H : AHeap} {r : Value × AHeap} (h : extF Tryd.prog fl f args H = some r) :
    callN Tryd.prog 1 fl f args H = some r := by
  simp only [callN]
  cases h5 : Tryd.prog.funcs[f]? with
  | none => rw [h5] at h3; cases h3
  | some fn =>
    cases h6 : bod fn with
    | none => rw [h5] at h3; simp [h6] at h3
    | some c =>
      rw [h5] at h3
      simp only [Option.bind_some, h6, Option.map_some, Option.some.injEq] at h3
      simp only [h6, h3, Bool.false_and, Bool.false_eq_true, if_false]
      exact h

theorem itoa_snd (n : Int) (Q : List (Bool × List VV) → Prop) (hb : -9223372036854775808 ≤ n ∧ n ≤ 9223372036854775807) (h : Q [(false, [.pl (.string (itoaS n))])]) :
    Sound Tryd.prog extI [.pl (.int .i64 n)] Q := by
  intro F fl H az hF hfl ha
  cases ha with
  | cons h1 ht =>
  cases ht
  obtain ⟨rfl, _⟩ := h1
  refine ⟨1, _, _, callN_ext (by kernel_rfl) (show (if extI = extI ∧ _ ∧ _ then _ else _) = some (wrap1 [Value.string (itoaS n)], H) from by rw [if_pos ⟨rfl, hb⟩]; rfl), _, h, .inl ⟨ctxF F H noHs, [], [.string (itoaS n)], ctxF_ok F H noHs hF, (XS.one (is := []) (XR.pl rfl XR.nil) XS.nil).toZ, List.nodup_nil, rfl⟩⟩

theorem atoi_snd (s : ByteArray) (Q : List (Bool × List VV) → Prop) (hb : s.size ≤ 281474976710656) (h : Q [(false, [.pl (.int .i64 (atoiS s).1)]), (false, [.er (atoiS s).2])]) :
    Sound Tryd.prog extZ [.pl (.string s)] Q := by
  intro F fl H az hF hfl ha
  cases ha with
  | cons h1 ht =>
  cases ht
  obtain ⟨rfl, _⟩ := h1
  cases hs : atoiS s with
  | mk v b =>
  rw [hs] at h
  cases b with
  | true =>
    refine ⟨1, _, _, callN_ext (by kernel_rfl) (show (if extZ = extZ ∧ _ then _ else _) = some (wrap1 [Value.int .i64 v, .nilIface], H) from by rw [if_pos ⟨rfl, hb⟩, hs]; rfl), _, h, .inl ⟨ctxF F H noHs, [], [.int .i64 v, .nilIface], ctxF_ok F H noHs hF,
      (XS.one (is := []) (XR.pl rfl XR.nil) (XS.one (is := []) (XR.er (.inl ⟨rfl, rfl⟩) XR.nil) XS.nil)).toZ, List.nodup_nil, rfl⟩⟩
  | false =>
    refine ⟨1, _, _, callN_ext (by kernel_rfl) (show (if extZ = extZ ∧ _ then _ else _) = some (wrap1 [Value.int .i64 v, .iface extE (.pointer (some ⟨H.length, 0, none⟩))], H ++ [⟨[], 0, false, true⟩]) from by rw [if_pos ⟨rfl, hb⟩, hs]; rfl), _, h,
      .inl ⟨⟨H.length, F, fun _ => none, [], noHs⟩, [], [.int .i64 v, .iface extE (.pointer (some ⟨H.length, 0, none⟩))], ?_,
      (XS.one (is := []) (XR.pl rfl XR.nil) (XS.one (is := []) (XR.er (.inr ⟨rfl, _, _, rfl⟩) XR.nil) XS.nil)).toZ, List.nodup_nil, rfl⟩⟩
    exact ⟨rfl, Pre.push _ _, fun b B hB => (Pre.push H _).blk (hF _ _ hB), fun _ _ => rfl, fun i o hi => (by simp at hi), fun i j b _ hi => (by cases hi), fun i j b _ _ hi => (by cases hi), fun _ _ => rfl⟩

theorem cut_snd (s sep : ByteArray) (Q : List (Bool × List VV) → Prop) (hb : s.size < 4294967281) (h : Q [(false, [.pl (.string (cutS s sep).1)]), (false, [.pl (.string (cutS s sep).2.1)]), (false, [.pl (.bool (cutS s sep).2.2)])]) :
    Sound Tryd.prog extK [.pl (.string s), .pl (.string sep)] Q := by
  intro F fl H az hF hfl ha
  cases ha with
  | cons h1 ht =>
  cases ht with
  | cons h2 ht =>
  cases ht
  obtain ⟨rfl, _⟩ := h1
  obtain ⟨rfl, _⟩ := h2
  refine ⟨1, _, _, callN_ext (by kernel_rfl) (show (if extK = extK ∧ _ then _ else _) = some (wrap1 [Value.string (cutS s sep).1, .string (cutS s sep).2.1, .bool (cutS s sep).2.2], H) from by rw [if_pos ⟨rfl, hb⟩]; rfl), _, h,
    .inl ⟨ctxF F H noHs, [], [.string (cutS s sep).1, .string (cutS s sep).2.1, .bool (cutS s sep).2.2], ctxF_ok F H noHs hF,
    (XS.one (is := []) (XR.pl rfl XR.nil) (XS.one (is := []) (XR.pl rfl XR.nil) (XS.one (is := []) (XR.pl rfl XR.nil) XS.nil))).toZ, List.nodup_nil, rfl⟩⟩

theorem split_snd (s sep : ByteArray) (Q : List (Bool × List VV) → Prop) (hb : s.size < 4294967281 ∧ 1 ≤ sep.size) (h : Q [(false, [.nw .str (splitS s sep)])]) :
    Sound Tryd.prog extS [.pl (.string s), .pl (.string sep)] Q := by
  intro F fl H az hF hfl ha
  cases ha with
  | cons h1 ht =>
  cases ht with
  | cons h2 ht =>
  cases ht
  obtain ⟨rfl, _⟩ := h1
  obtain ⟨rfl, _⟩ := h2
  have hne : ¬ (extS = extK ∧ s.size < 4294967281) := fun k => absurd k.1 (by decide)
  have hrc : ∀ (F : Fz) (l : List ByteArray), RC F .str l (l.map Value.string) := by
    intro F l
    induction l with
    | nil => exact RC.nil F .str
    | cons x l ih => exact RC.cons (t := .str) (x := x) (cs := [.string x]) rfl ih
  have key : extF Tryd.prog fl extS #[.string s, .string sep] H = some (wrap1 [Value.slice (some ⟨H.length, 0, none⟩) (splitS s sep).length (splitS s sep).length], H ++ [⟨(splitS s sep).map Value.string, 1, false, true⟩]) := by
    unfold extF
    simp only [if_neg hne]
    rw [if_pos ⟨trivial, hb⟩]
    rfl
  refine ⟨1, _, _, callN_ext (by kernel_rfl) key, _, h, .inl ⟨addC (ctxF F H noHs) (some H.length) (.lst true .str (splitS s sep) false), [0], [Value.slice (some ⟨H.length, 0, none⟩) (splitS s sep).length (splitS s sep).length], ?_, ?_, by simp, rfl⟩⟩
  · exact (ctxF_ok F H noHs hF).addLst (ex := false) (Pre.push _ _) (Nat.le_refl _) (new_get H _ rfl) (hrc _ _)
  · refine (XS.one (is := [0]) ?_ XS.nil).toZ
    exact XR.nw (T := .str) (x := splitS s sep) (i := 0) rfl XR.nil

end Go.Mach
