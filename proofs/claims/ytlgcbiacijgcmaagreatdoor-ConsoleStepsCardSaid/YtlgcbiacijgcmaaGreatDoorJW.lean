/- ConsoleSteps: what the program comes to, whatever the numbers are. Condition: three variables of the library's lie there. -/
import Derived.Test.YtlgcbiacijgcmaaGreatDoorJZ
import Derived.Test.YtlgcbiacijgcmaaGreatDoorBridge
import Derived.RowKit3
import Derived.ChangeArms
import Derived.ChangeSlices
import Derived.ChangeShapes
import Derived.WideShapes
namespace Go.Mach
open Go.RowKit Go.ChangeShapes Go.WideShapes
set_option linter.unusedVariables false

/-- A row of numbers that came in. -/
def RowH (k : IntKind) (w : World) (a : Option Addr) (len cap : Nat) (zs : List Int) : Prop :=
  (a = none ∧ len = 0 ∧ cap = 0 ∧ zs = []) ∨
  ∃ x, a = some x ∧ (x.spot = none ∧ x.block < w.heap.size) ∧ len ≤ cap ∧ cap ≤ maxLen ∧ zs.length = cap ∧ (∀ i, i < zs.length → w.cell? (x.add i) = some (.int k (zs.getD i 0))) ∧ ∀ n ∈ zs, (Lit.int k n).wf = true
section
variable {H : Type} {enc : TypeId × Value → H} {P : Program} {w : World} {r : Reach} {base : Nat}
theorem cell_home {t e : TypeId} {a : Addr} {len cap : Nat} (ht : P.underlying t = some (.slice e)) (h : Cell.okWide P w r base t (.slice (some a) len cap)) :
    a.spot = none ∧ a.block < w.heap.size := by
  simp only [Cell.okWide, ht, Cell.ok] at h
  obtain ⟨_, _, _, h1, row, cells, h2, _⟩ := h
  refine ⟨h1, ?_⟩
  unfold World.shape? at h2
  cases hg : w.heap[a.block]? with
  | none => simp [hg] at h2
  | some o => exact (Array.getElem?_eq_some_iff.1 hg).1
theorem open_row {t e : TypeId} {k : IntKind} {fuel : Nat} {v : Value} {x : DataW H × List MemPlace} (ht : P.underlying t = some (.slice e)) (he : P.underlying e = some (.int k)) (hc : P.cellsOf e = 1)
    (h : DataW.trod enc P w 0 (fun _ => true) true fuel t [v] = some x) (hok : Cell.okWide P w r base t v) : ∃ a len cap zs, v = .slice a len cap ∧ RowH k w a len cap zs := by
  rcases open_ints ht he hc h with ⟨hcs, _⟩ | ⟨a, l, c, zs, hcs, _, hl, hm, hz, _, hcell, hwz⟩
  · cases hcs
    exact ⟨none, 0, 0, [], rfl, .inl ⟨rfl, rfl, rfl, rfl⟩⟩
  · cases hcs
    exact ⟨some a, l, c, zs, rfl, .inr ⟨a, rfl, cell_home ht hok, hl, hm, by simpa using hz, hcell, hwz⟩⟩
/-- A slice of numbers. -/
theorem open_arg {t e : TypeId} {k : IntKind} {v : Value} {d : DataW H} {ps : List MemPlace} (ht : P.underlying t = some (.slice e)) (he : P.underlying e = some (.int k)) (hc : P.cellsOf e = 1)
    (hok : Value.okWide P w r base t v) (hd : DataW.Trod enc P w 0 (fun _ => true) true t v d ps) : ∃ a len cap zs, v = .slice a len cap ∧ RowH k w a len cap zs := by
  obtain ⟨a, len, cap, rfl⟩ := okWide_slice ht hok
  obtain ⟨fuel, hf⟩ := hd
  have hok' : Cell.okWide P w r base t (.slice a len cap) := by
    simp only [Value.okWide, ht] at hok
    exact hok
  exact open_row ht he hc (fuel := fuel) hf hok'
end

/-- As the machine reads it. -/
theorem row_read {w : World} {a : Option Addr} {len cap : Nat} {zs : List Int} (h : RowH .i64 w a len cap zs) : J.LR (heapOf w) a len w.heap.size zs ∧ VRel (ren0 w) (.slice a len cap) (.slice a len cap) := by
  rcases h with ⟨rfl, rfl, rfl, rfl⟩ | ⟨x, rfl, hx, hl, hm, hz, hc, hw⟩
  · exact ⟨⟨fun i hi => absurd hi (Nat.not_lt_zero i), by decide⟩, .nilslice _ _⟩
  · obtain ⟨b, o, sp⟩ := x
    obtain ⟨h1, h2⟩ := hx
    simp only at h1 h2
    subst h1
    refine ⟨⟨fun i hi => ⟨b, o, rfl, h2, ?_⟩, ?_⟩, vrel_slice h2 hl⟩
    · obtain ⟨_, _, h3⟩ := heapOf_cell (hc i (by omega)) (.int _ _) rfl
      unfold Addr.add at h3
      by_cases h0 : i = 0
      · subst h0
        simp only [if_true] at h3
        exact h3
      · rw [if_neg h0] at h3
        exact h3
    · have : maxLen ≤ 9223372036854775807 := by decide
      omega

/-- A function that is told answers as it is told. -/
theorem callG_ext {xb : FuncId → Bool} {xf : Caller} {P : Program} {M : Nat} {f : FuncId} {fn : Func} {c : Code} (hf : P.funcs[f]? = some fn) (hb : bod fn = some c) (hx : xb f = true) (fl : Nat) (args : Array Value) (H : AHeap) :
    callG xb xf P (M + 1) fl f args H = xf fl f args H := by
  simp only [callG, hf, hb, okG, hx, Bool.not_true, Bool.false_and, Bool.false_eq_true, if_false]

namespace J
open Go Go.Mach
def LAW : FuncId := 3
def xbL (f : FuncId) : Bool := !(Nat.beq f LAW)
theorem steps_calls {w : World} (hL : LibVars w) {a : Option Addr} {len cap : Nat} {zs : List Int} (hr : RowH .i64 w a len cap zs) :
    Calls Go.Proofs.Tryz.prog LAW #[.slice a len cap] w fun e w' => e = .returned (.bool true) ∧ Below w.heap.size w w' := by
  have hm : Go.Proofs.Tryz.prog.follows .mixedOrders = true := by kernel_rfl
  obtain ⟨xf1, hk1, hS1, hs1⟩ := next_table (P := Go.Proofs.Tryz.prog) (N := 100000) wfN runN hm (fun hL hb => extF0_sound hL hb) gTop_is
  obtain ⟨xf, hk, hs, haw, hg⟩ := table hk1 (calls_ok hS1 (callG_kept extB1 hk1 Go.Proofs.Tryz.prog) 100000) hm hs1 gTop_is
  have hT0 := told hk haw hg
  -- nothing else is called
  let call : Caller := fun fl f args H => if (Nat.beq f LN || Nat.beq f 4 || Nat.beq f extW) = true then xf fl f args H else none
  have eL : ∀ fl args H, call fl LN args H = xf fl LN args H := fun fl args H => if_pos (by decide)
  have eN : ∀ fl args H, call fl 4 args H = xf fl 4 args H := fun fl args H => if_pos (by decide)
  have eW : ∀ fl args H, call fl extW args H = xf fl extW args H := fun fl args H => if_pos (by decide)
  have hT : Told call := by
    refine ⟨fun fl f args H v H' h => ?_, fun fl H => by rw [eW]; exact haw fl H, ?_, ?_, ?_, ?_, ?_, ?_, ?_, ?_⟩
    · simp only [call] at h
      split at h
      · exact hk _ _ _ _ _ _ h
      · cases h
    · intro fl H h; rw [eN]; exact hT0.new fl H h
    · intro fl H c n k hn hk h hfl; rw [eL]; exact hT0.train fl H c n k hn hk h hfl
    · intro fl H c n hn h hfl; rw [eL]; exact hT0.step fl H c n hn h hfl
    · intro fl H c n hn h hfl; rw [eL]; exact hT0.saved fl H c n hn h hfl
    · intro fl H c n hn h hfl; rw [eL]; exact hT0.crash fl H c n hn h hfl
    · intro fl H c h hfl; rw [eL]; exact hT0.step2 fl H c h hfl
    · intro fl H c h hfl; rw [eL]; exact hT0.wts fl H c h hfl
    · intro fl H c h hfl; rw [eL]; exact hT0.wts2 fl H c h hfl
  obtain ⟨hl, hv⟩ := row_read hr
  obtain ⟨c, hb, N, e, t', H', hx, hq⟩ := law_W hT (Nat.le_refl w.heap.size) (cap := cap) hl (by rw [heapOf_length]; exact Nat.le_refl _)
  have hcl : ∀ fl f args H r, call fl f args H = some r → callG xbL xf Go.Proofs.Tryz.prog (N + 1) fl f args H = some r := by
    intro fl f args H r h
    simp only [call] at h
    split at h
    · rename_i hf
      simp only [Bool.or_eq_true] at hf
      rcases hf with (hf | hf) | hf
      · obtain rfl := Nat.eq_of_beq_eq_true hf
        exact (callG_ext (xb := xbL) (f := LN) Go.Proofs.Tryz.func5 rfl (by decide) fl args H).trans h
      · obtain rfl := Nat.eq_of_beq_eq_true hf
        exact (callG_ext (xb := xbL) (f := 4) Go.Proofs.Tryz.func4 rfl (by decide) fl args H).trans h
      · obtain rfl := Nat.eq_of_beq_eq_true hf
        exact (callG_ext (xb := xbL) (f := extW) Go.Proofs.Tryz.func6 rfl (by decide) fl args H).trans h
    · cases h
  have hx2 := exec_mono hcl (Nat.le_succ N) _ _ _ _ hx
  have hrun : callG xbL xf Go.Proofs.Tryz.prog (N + 1 + 1) w.heap.size LAW #[.slice a len cap] (heapOf w) = some (.bool true, H') := by
    have hf : Go.Proofs.Tryz.prog.funcs[LAW]? = some Go.Proofs.Tryz.f3 := Go.Proofs.Tryz.func3
    have hok : okG xbL LAW Go.Proofs.Tryz.f3 c = true := by
      obtain rfl : _ = c := Option.some.inj hb
      kernel_rfl
    have hsz : (#[Value.slice a len cap] : Array Value).size ≤ Go.Proofs.Tryz.f3.ntmps := Nat.le_of_ble_eq_true (by kernel_rfl)
    rw [callG]
    simp only [hf, hb, hok, Bool.true_and, decide_eq_true_eq, if_pos hsz, hx2]
    cases e with
    | normal => simp only [show resultAll Go.Proofs.Tryz.prog t' H' _ = some [.bool true] from hq]; rfl
    | ret => simp only [show resultAll Go.Proofs.Tryz.prog t' H' _ = some [.bool true] from hq]; rfl
    | _ => exact hq.elim
  have hno : ∀ id, w.heap.size ≤ id → ren0 w id = none := fun id h => by
    cases hr : ren0 w id with
    | none => rfl
    | some L => have := (ren0_lt hr).1; omega
  refine (callG_sound (base := w.heap.size) (w0 := w) xbL hk Go.Proofs.Tryz.prog (hs hL hL.top) hm (N + 1 + 1) w.heap.size LAW #[.slice a len cap] #[.slice a len cap] (ren0 w) (heapOf w) H' w (.bool true) (sim0 w) (Nat.le_refl _) (by rw [heapOf_length]; exact Nat.le_refl _)
    (fun id h _ => hno id (by rw [heapOf_length] at h; exact h)) (LRel.cons hv (LRel.nil _)) hrun).mono ?_
  rintro e w' ⟨v', ρ', rfl, hv', st⟩
  cases hv'
  exact ⟨rfl, st.side.1, st.side.2.1, st.side.2.2, st.grow, fun b hb => st.frame b hb fun id L h1 _ _ h _ => by rw [hno id h1] at h; cases h⟩
end J
end Go.Mach
