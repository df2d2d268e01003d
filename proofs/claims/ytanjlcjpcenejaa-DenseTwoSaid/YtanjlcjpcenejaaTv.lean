/- Tensors as values: what they read as. Definitions and laws; no condition. -/
import Derived.Test.YtanjlcjpcenejaaOwn
namespace Go.Mach

/-- A tensor's value: dims, exponent, numbers. -/
structure TV where
  da : Option Addr
  dc : Nat
  dims : List Int
  exp : Int
  na : Option Addr
  nc : Nat
  data : List Int
def TV.cells (v : TV) : List Value := [.slice v.da v.dims.length v.dc, .int .i64 v.exp, .slice v.na v.data.length v.nc]
def TV.val (v : TV) : Value := .agg #[.slice v.da v.dims.length v.dc, .int .i64 v.exp, .slice v.na v.data.length v.nc]
structure TV.ok (k : IntKind) (H : AHeap) (v : TV) : Prop where
  dims : RI H .i64 v.da v.dc v.dims
  data : RI H k v.na v.nc v.data
theorem TV.ok.pre {k : IntKind} {H H' : AHeap} {v : TV} (h : v.ok k H) (hp : Pre H H') : v.ok k H' := ⟨h.dims.pre hp, h.data.pre hp⟩
/-- Tensors one behind the other. -/
def tvs : List TV → List Value
  | [] => []
  | v :: l => v.cells ++ tvs l
theorem tvs_len : ∀ l : List TV, (tvs l).length = l.length * 3
  | [] => rfl
  | v :: l => by simp only [tvs, List.length_append, tvs_len l, List.length_cons, TV.cells, List.length_nil]; omega
theorem tvs_at : ∀ {l : List TV} {i : Nat} {v : TV}, l[i]? = some v → ((tvs l).drop (i * 3)).take 3 = v.cells
  | [], i, v, h => by simp at h
  | u :: l, 0, v, h => by
    simp only [List.getElem?_cons_zero, Option.some.injEq] at h
    subst h
    simp [tvs, TV.cells]
  | u :: l, i + 1, v, h => by
    simp only [List.getElem?_cons_succ] at h
    rw [← tvs_at h]
    have : (i + 1) * 3 = 3 + i * 3 := by omega
    rw [this, ← List.drop_drop]
    rfl
theorem loadB_tv {P : Program} {ty : TypeId} {l : List TV} {i es : Nat} {ex : Bool} {v : TV} {fs : List (Nat × Nat × Option Bool)} (ht : aTy P ty = .struct 3 fs) (hi : l[i]? = some v) : loadB P ty ⟨tvs l, es, ex, true⟩ (i * 3) = some v.val := by
  unfold loadB
  rw [ht]
  have h1 : i < l.length := (List.getElem?_eq_some_iff.1 hi).1
  have h2 : i * 3 + 3 ≤ (tvs l).length := by rw [tvs_len]; omega
  simp only [h2, true_and, tvs_at hi]
  rfl
/-- A list of tensors' values reads as a list. -/
structure TL (k : IntKind) (H : AHeap) (b : Nat) (l : List TV) (ex : Bool) : Prop where
  blk : blk? H b = some ⟨tvs l, 3, ex, true⟩
  ok : ∀ v ∈ l, v.ok k H
theorem TL.at_ {k : IntKind} {H : AHeap} {b : Nat} {l : List TV} {ex : Bool} (h : TL k H b l ex) {i : Nat} (hi : i < l.length) : ∃ v, l[i]? = some v ∧ v.ok k H :=
  ⟨l[i], List.getElem?_eq_getElem hi, h.ok _ (List.getElem_mem hi)⟩

theorem firstA_RI {H : AHeap} {k : IntKind} {a : Option Addr} {c : Nat} {l : List Int} (h : RI H k a c l) {n c' : Nat} (hn : n = l.length) : firstA H 1 n (.slice a n c') = some (l.map (Value.int k)) := by
  subst hn
  cases l with
  | nil => cases a <;> simp [firstA]
  | cons x r =>
    obtain ⟨b, o, rfl, _⟩ := h.at_ 0 (by simp)
    simp only [firstA]
    rw [if_neg (by simp)]
    unfold cellsAt
    have hc : ∀ i, i < (x :: r).length → cellAt H ⟨b, o + i, none⟩ = some (.int k ((x :: r).getD i 0)) := by
      intro i hi
      obtain ⟨b', o', h1, h2⟩ := h.at_ i hi
      cases h1
      exact h2
    cases hb : blk? H b with
    | none => have := hc 0 (by simp); simp [cellAt, hb] at this
    | some B =>
      have hcc : ∀ i, i < (x :: r).length → B.cells[o + i]? = some (.int k ((x :: r).getD i 0)) := by
        intro i hi
        have := hc i hi
        unfold cellAt at this
        simp only [hb] at this
        cases hu : B.cells[o + i]? with
        | none => simp [hu] at this
        | some u =>
          simp only [hu] at this
          split at this
          · cases this
          · exact this
      have hlen : o + (x :: r).length * 1 ≤ B.cells.length := by
        have := (List.getElem?_eq_some_iff.1 (hcc ((x :: r).length - 1) (by simp))).1
        simp only [List.length_cons] at this ⊢
        omega
      simp only []
      have he : (B.cells.drop o).take ((x :: r).length * 1) = (x :: r).map (Value.int k) := ?_
      rw [he, if_pos ⟨hlen, ints_no k _⟩]
      apply List.ext_getElem?
      intro i
      by_cases hi : i < (x :: r).length
      · rw [ib_cell hi, List.getElem?_take_of_lt (by omega), List.getElem?_drop, hcc i hi]
      · rw [List.getElem?_eq_none (by simp only [List.length_take, List.length_drop]; omega), List.getElem?_eq_none (by simp only [List.length_map]; omega)]

theorem RI.nil (H : AHeap) (k : IntKind) (c : Nat) : RI H k none c [] := ⟨by simp, fun i hi => by simp at hi, by simp⟩

section
variable {P : Program} {fl : Nat} {t : Temps} {H : AHeap}
theorem prim_shr {ty : TypeId} {x y : Operand} {z : TypeId} {k k2 : IntKind} {a b : Int} (hx : eval t x = .int k a) (hy : eval t y = .int k2 b) (h0 : 0 ≤ b) :
    prim P fl (.binOp .shr ty x y z) (eval t) H = some (.value (.int k (a.fdiv (2 ^ (min b.toNat k.bits)))), H) := by
  simp only [prim, hx, hy, bin2A, aBin, if_neg (show ¬ b < 0 by omega), boolTy, if_true, Option.map_some]
theorem prim_shl {ty : TypeId} {x y : Operand} {z : TypeId} {k k2 : IntKind} {a b : Int} (hx : eval t x = .int k a) (hy : eval t y = .int k2 b) (h0 : 0 ≤ b) :
    prim P fl (.binOp .shl ty x y z) (eval t) H = some (.value (.int k (k.wrap (a * 2 ^ (min b.toNat k.bits)))), H) := by
  simp only [prim, hx, hy, bin2A, aBin, if_neg (show ¬ b < 0 by omega), boolTy, if_true, Option.map_some]
theorem prim_quo {ty : TypeId} {x y : Operand} {z : TypeId} {k : IntKind} {a b : Int} (hx : eval t x = .int k a) (hy : eval t y = .int k b) (h0 : b ≠ 0) :
    prim P fl (.binOp .quo ty x y z) (eval t) H = some (.value (.int k (k.wrap (a.tdiv b))), H) := by
  simp only [prim, hx, hy, bin2A, aBin, ne_eq, not_true_eq_false, if_false, if_neg h0, boolTy, if_true, Option.map_some]
theorem prim_rem {ty : TypeId} {x y : Operand} {z : TypeId} {k : IntKind} {a b : Int} (hx : eval t x = .int k a) (hy : eval t y = .int k b) (h0 : b ≠ 0) :
    prim P fl (.binOp .rem ty x y z) (eval t) H = some (.value (.int k (a.tmod b)), H) := by
  simp only [prim, hx, hy, bin2A, aBin, ne_eq, not_true_eq_false, if_false, if_neg h0, boolTy, if_true, Option.map_some]
end

end Go.Mach
