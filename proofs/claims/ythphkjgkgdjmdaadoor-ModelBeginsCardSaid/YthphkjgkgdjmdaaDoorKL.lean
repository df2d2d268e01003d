/- A line as a layer, the first line (model.layer, model.first). Laws; no condition. -/
import Derived.Test.YthphkjgkgdjmdaaDoorKS
namespace Go.Proofs.YthphkjgkgdjmdaaDoor
open Go.Mach
set_option maxRecDepth 100000
set_option linter.unusedVariables false
set_option linter.unusedSimpArgs false

def wDense : Bytes := [100, 101, 110, 115, 101]
def wConv : Bytes := [99, 111, 110, 118]
def wMax : Bytes := [109, 97, 120]
def wAvg : Bytes := [97, 118, 103]
def wRelu : Bytes := [114, 101, 108, 117]
def wFlat : Bytes := [102, 108, 97, 116]
def wAdd : Bytes := [97, 100, 100]
def wIn : Bytes := [105, 110]
def wFz : Bytes := [32, 102, 114, 111, 122, 101, 110]

theorem tst (a b : Bytes) : ((B a).toList == (B b).toList) = decide (a = b) := by
  rw [bytes_eq, Bool.eq_iff_iff, decide_eq_true_iff, decide_eq_true_iff]
  exact ⟨B_inj, fun e => by rw [e]⟩

/-- The line without ' frozen' at its end, and whether it had it. -/
def sufF (l : Bytes) : Bytes × Bool := if 7 ≤ l.length ∧ l.drop (l.length - 7) = wFz then (l.take (l.length - 7), true) else (l, false)
theorem suf_v {s : ByteArray} {Q : ByteArray × Bool → Prop} (hs : s.size ≤ 1000000) (h : Q (B (sufF s.data.toList).1, (sufF s.data.toList).2)) : strings_CutSuffix s sc_0481102b Q := by
  have hl : s.data.toList.length = s.size := rfl
  have h7 : sc_0481102b.size = 7 := rfl
  refine ⟨⟨⟨?_⟩⟩⟩
  unfold jn
  dsimp only
  rw [h7]
  unfold sufF at h
  by_cases h1 : 7 ≤ s.data.toList.length
  · rw [if_pos (decide_eq_true (by omega)), wrap_i64 _ (by omega) (by omega)]
    have e1 : ((s.size : Int) - ((7 : Nat) : Int)).toNat = s.data.toList.length - 7 := by omega
    refine ⟨⟨trivial, by omega, by omega, by omega⟩, ?_⟩
    rw [e1, Int.toNat_natCast, List.take_length]
    have et : ((⟨(s.data.toList.drop (s.data.toList.length - 7)).toArray⟩ : ByteArray).toList == sc_0481102b.toList) = decide (s.data.toList.drop (s.data.toList.length - 7) = wFz) := tst _ wFz
    rw [et]
    by_cases h2 : s.data.toList.drop (s.data.toList.length - 7) = wFz
    · rw [decide_eq_true h2, if_neg (by simp)]
      rw [if_pos ⟨h1, h2⟩] at h
      refine ⟨⟨trivial, by omega, by omega, by omega⟩, ?_⟩
      rw [Int.toNat_zero, List.drop_zero]
      exact h
    · rw [decide_eq_false h2, if_pos (by rfl)]
      rw [if_neg (fun k => h2 k.2)] at h
      exact h
  · rw [if_neg (by simp; omega), if_pos (by rfl)]
    rw [if_neg (fun k => h1 k.1)] at h
    exact h

/-- A word and numbers as a layer. -/
def layerP (w : Bytes) (ns : List Int) (fz : Bool) : Option Lay :=
  if fz = true ∧ w ≠ wDense ∧ w ≠ wConv then none
  else if w = wDense then (match ns with
    | [a] => some (1, a, 0, 0, 0, 0, fz)
    | _ => none)
  else if w = wConv then (match ns with
    | [a, b, c, d] => some (2, a, b, c, d, 0, fz)
    | _ => none)
  else if w = wMax then (match ns with
    | [a, b] => some (3, 0, a, b, 0, 0, fz)
    | _ => none)
  else if w = wAvg then (match ns with
    | [a, b] => some (4, 0, a, b, 0, 0, fz)
    | _ => none)
  else if w = wRelu then (match ns with
    | [] => some (5, 0, 0, 0, 0, 0, fz)
    | _ => none)
  else if w = wFlat then (match ns with
    | [] => some (6, 0, 0, 0, 0, 0, fz)
    | _ => none)
  else if w = wAdd then (match ns with
    | [a] => some (7, 0, 0, 0, 0, a, fz)
    | _ => none)
  else none
def layerF (l : Bytes) : Option Lay :=
  match cutF (sufF l).1 with
  | some (w, ns) => layerP w ns (sufF l).2
  | none => none
def optL (o : Option Lay) : Lay × Bool :=
  match o with
  | some x => (x, true)
  | none => (Lay0, false)
theorem layer_v {s : ByteArray} {Q : Lay × Bool → Prop} (hs : s.size ≤ 1000000) (h : Q (optL (layerF s.data.toList))) : model_layer s Q := by
  refine ⟨suf_v hs ?_⟩
  have hsz : (B (sufF s.data.toList).1).size ≤ 1000000 := by
    rw [B_size]
    have hl : s.data.toList.length = s.size := rfl
    unfold sufF
    split
    · rw [List.length_take]; omega
    · show s.data.toList.length ≤ _; omega
  refine mcut_v hsz ?_
  rw [data_B]
  unfold layerF at h
  generalize (sufF s.data.toList).2 = fz at h
  cases hc : cutF (sufF s.data.toList).1 with
  | none =>
    rw [hc] at h
    rw [if_pos (by rfl)]
    exact h
  | some p =>
    obtain ⟨w, ns⟩ := p
    rw [hc] at h
    simp only at h
    simp only [show sc_d6a98598 = B wDense from rfl, show (⟨#[99, 111, 110, 118]⟩ : ByteArray) = B wConv from rfl, show (⟨#[109, 97, 120]⟩ : ByteArray) = B wMax from rfl, show (⟨#[97, 118, 103]⟩ : ByteArray) = B wAvg from rfl,
      show (⟨#[114, 101, 108, 117]⟩ : ByteArray) = B wRelu from rfl, show (⟨#[102, 108, 97, 116]⟩ : ByteArray) = B wFlat from rfl, show (⟨#[97, 100, 100]⟩ : ByteArray) = B wAdd from rfl, tst, decide_eq_true_eq]
    unfold layerP at h
    by_cases hf : fz = true ∧ w ≠ wDense ∧ w ≠ wConv
    · rw [if_pos hf] at h
      rw [if_pos (by simp [hf.1, hf.2.1, hf.2.2])]
      exact h
    rw [if_neg hf] at h
    rw [if_neg (by
      intro k
      simp only [Bool.not_true, Bool.false_or, Bool.and_eq_true, Bool.not_eq_true', decide_eq_false_iff_not] at k
      exact hf ⟨k.1.1, k.1.2, k.2⟩)]
    have none_ : ∀ {k : Int} {m : Nat}, ns.length ≠ m → (((k == 0) || ((ns.length : Int) != (m : Int))) = true) := fun hm => by
      rw [Bool.or_eq_true]; right; simp; omega
    by_cases h1 : w = wDense
    · rw [if_pos h1] at h ⊢
      rcases ns with _ | ⟨a, _ | ⟨b, r⟩⟩
      · rw [if_pos (by rfl)]; exact h
      · rw [if_neg (by simp)]; exact ⟨by simp, h⟩
      · rw [if_pos (by simp; omega)]; exact h
    rw [if_neg h1] at h ⊢
    by_cases h2 : w = wConv
    · rw [if_pos h2] at h ⊢
      rcases ns with _ | ⟨a, _ | ⟨b, _ | ⟨c, _ | ⟨d, _ | ⟨e, r⟩⟩⟩⟩⟩
      · rw [if_pos (by rfl)]; exact h
      · rw [if_pos (by rfl)]; exact h
      · rw [if_pos (by rfl)]; exact h
      · rw [if_pos (by rfl)]; exact h
      · rw [if_neg (by simp)]; exact ⟨by simp, by simp, by simp, by simp, h⟩
      · rw [if_pos (by simp; omega)]; exact h
    rw [if_neg h2] at h ⊢
    by_cases h3 : w = wMax
    · rw [if_pos h3] at h ⊢
      rcases ns with _ | ⟨a, _ | ⟨b, _ | ⟨c, r⟩⟩⟩
      · rw [if_pos (by rfl)]; exact h
      · rw [if_pos (by rfl)]; exact h
      · rw [if_neg (by simp)]; exact ⟨by simp, by simp, h⟩
      · rw [if_pos (by simp; omega)]; exact h
    rw [if_neg h3] at h ⊢
    by_cases h4 : w = wAvg
    · rw [if_pos h4] at h ⊢
      rcases ns with _ | ⟨a, _ | ⟨b, _ | ⟨c, r⟩⟩⟩
      · rw [if_pos (by rfl)]; exact h
      · rw [if_pos (by rfl)]; exact h
      · rw [if_neg (by simp)]; exact ⟨by simp, by simp, h⟩
      · rw [if_pos (by simp; omega)]; exact h
    rw [if_neg h4] at h ⊢
    by_cases h5 : w = wRelu
    · rw [if_pos h5] at h ⊢
      rcases ns with _ | ⟨a, r⟩
      · rw [if_neg (by simp)]; exact h
      · rw [if_pos (by simp; omega)]; exact h
    rw [if_neg h5] at h ⊢
    by_cases h6 : w = wFlat
    · rw [if_pos h6] at h ⊢
      rcases ns with _ | ⟨a, r⟩
      · rw [if_neg (by simp)]; exact h
      · rw [if_pos (by simp; omega)]; exact h
    rw [if_neg h6] at h ⊢
    by_cases h7 : w = wAdd
    · rw [if_pos h7] at h ⊢
      rcases ns with _ | ⟨a, _ | ⟨b, r⟩⟩
      · rw [if_pos (by rfl)]; exact h
      · rw [if_neg (by simp)]; exact ⟨by simp, h⟩
      · rw [if_pos (by simp; omega)]; exact h
    rw [if_neg h7] at h ⊢
    rw [if_pos (by simp)]
    exact h

/-- What goes in. -/
def firstF (l : Bytes) : Option (Int × Int × Int) :=
  match cutF l with
  | some (w, [a, b, c]) => if w = wIn ∧ entersB (a, b, c) = true then some (a, b, c) else none
  | _ => none
def optI (o : Option (Int × Int × Int)) : (Int × Int × Int) × Bool :=
  match o with
  | some x => (x, true)
  | none => ((0, 0, 0), false)
theorem first_v {s : ByteArray} {Q : (Int × Int × Int) × Bool → Prop} (hs : s.size ≤ 1000000) (h : Q (optI (firstF s.data.toList))) : model_first s Q := by
  refine ⟨mcut_v hs ?_⟩
  unfold firstF at h
  unfold jn
  dsimp only
  cases hc : cutF s.data.toList with
  | none =>
    rw [hc] at h
    rw [if_pos (by rfl), if_pos rfl]
    exact h
  | some p =>
    obtain ⟨w, ns⟩ := p
    rw [hc] at h
    simp only at h ⊢
    simp only [show (⟨#[105, 110]⟩ : ByteArray) = B wIn from rfl, tst]
    by_cases hw : w = wIn
    · rcases ns with _ | ⟨a, _ | ⟨b, _ | ⟨c, _ | ⟨d, r⟩⟩⟩⟩
      · rw [if_pos (by simp), if_pos trivial]; exact h
      · rw [if_pos (by simp), if_pos trivial]; exact h
      · rw [if_pos (by simp), if_pos trivial]; exact h
      · rw [if_neg (by simp [hw])]
        refine ⟨by simp, ⟨by simp, enters_v ?_⟩⟩
        simp only [List.getD_cons_zero, List.getD_cons_succ]
        dsimp only at h
        cases he : entersB (a, b, c) with
        | true =>
          rw [if_pos ⟨hw, he⟩] at h
          rw [if_neg (by simp)]
          exact ⟨by simp, ⟨by simp, h⟩⟩
        | false =>
          rw [if_neg (fun k => by rw [he] at k; cases k.2)] at h
          rw [if_pos (by rfl)]
          exact h
      · rw [if_pos (by simp; omega), if_pos trivial]; exact h
    · rw [if_pos (by simp [hw]), if_pos trivial]
      rcases ns with _ | ⟨a, _ | ⟨b, _ | ⟨c, _ | ⟨d, r⟩⟩⟩⟩
      · exact h
      · exact h
      · exact h
      · dsimp only at h; rw [if_neg (fun k => hw k.1)] at h; exact h
      · exact h

end Go.Proofs.YthphkjgkgdjmdaaDoor
