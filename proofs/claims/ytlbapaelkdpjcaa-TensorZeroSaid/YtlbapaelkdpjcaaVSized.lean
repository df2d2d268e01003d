/- A slice of numbers that came in, and how long it is at most. Laws; no condition. -/
import Derived.Test.YtlbapaelkdpjcaaVArg
import Derived.SizedLaws
namespace Go.Mach
open Go.RowKit Go.ChangeShapes Go.WideShapes
set_option linter.unusedVariables false

theorem arg_sized {H : Type} {enc : TypeId × Value → H} {P : Program} {w : World} {r : Reach} {base : Nat} {t e : TypeId} {k : IntKind} {v : Value} {d : DataW H} {ps : List MemPlace} {ts : List TypeId} {ds : List (DataW H)} {j : Nat}
    (ht : P.underlying t = some (.slice e)) (he : P.underlying e = some (.int k)) (hc : P.cellsOf e = 1) (hok : Value.okWide P w r base t v) (hd : DataW.Trod enc P w 0 (fun _ => true) true t v d ps)
    (hsz : (DataW.weightsEach P ts ds).all (· ≤ reachBytes) = true) (hj : ts[j]? = some t) (hdj : ds[j]? = some d) : ∃ a len cap zs, v = .slice a len cap ∧ RowH k w a len cap zs ∧ len * P.bytesOf e ≤ reachBytes := by
  obtain ⟨a, len, cap, rfl⟩ := okWide_slice ht hok
  obtain ⟨fuel, hf⟩ := hd
  have hok' : Cell.okWide P w r base t (.slice a len cap) := by
    simp only [Value.okWide, ht] at hok
    exact hok
  rcases open_ints ht he hc hf with ⟨hcs, _⟩ | ⟨a, l, c, zs, hcs, _, hl, hm, hz, hx, hcell, hwz⟩
  · cases hcs
    exact ⟨none, 0, 0, [], rfl, .inl ⟨rfl, rfl, rfl, rfl⟩, by simp⟩
  · cases hcs
    refine ⟨some a, len, cap, zs, rfl, .inr ⟨a, rfl, cell_home ht hok', hl, hm, by simpa using hz, hcell, hwz⟩, ?_⟩
    cases hx
    have h := sized_slice hsz hj hdj ht
    have hz : zs.length = cap := by simpa using hz
    simp only [lits, List.length_map, List.length_take, List.length_drop] at h
    have : len * P.bytesOf e ≤ (min len zs.length + (zs.length - len)) * P.bytesOf e := Nat.mul_le_mul_right _ (by omega)
    omega

end Go.Mach
