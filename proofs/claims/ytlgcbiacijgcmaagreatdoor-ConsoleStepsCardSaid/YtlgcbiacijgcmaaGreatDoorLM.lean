/- The library's variables as the rows list them: a world that holds them so, and what they give. No condition. -/
import Derived.Test.YtlgcbiacijgcmaaGreatDoorRows
import Derived.Test.YtlgcbiacijgcmaaGreatDoorExtS
import Derived.Test.YtlgcbiacijgcmaaGreatDoorLaid
import Derived.Lib.LaidIn
import Derived.LaidLaws
namespace Go.Mach
open Go.Lib

theorem laidVars_iface {P : Program} {W : World} {name nm : String} {d : DataW Unit} {g : Nat} {ti : TypeId} {ms : Array (String × TypeId)}
    (hg : P.globalNamed name = some g) (hty : (P.globals[g]?).map (·.type) = some ti) (hi : P.underlying ti = some (.interface ms)) :
    ∀ {l : List (String × DataW Unit)} {ps : List MemPlace}, DataW.LaidVars P W l ps → (name, .iface nm d) ∈ l → ∃ ev, W.cell? ⟨g, 0, none⟩ = some ev ∧ (ev = .nilIface ∨ ∃ te pe, ev = .iface te pe)
  | [], _, _, hm => by cases hm
  | (n', d') :: r, ps, h, hm => by
    obtain ⟨g', t', cs, fuel, p, q, hg', ht', hvar, hd, hr, _⟩ := h
    rcases List.mem_cons.1 hm with e1 | e1
    · cases e1
      obtain rfl := Option.some.inj (hg.symm.trans hg')
      obtain rfl := Option.some.inj (hty.symm.trans ht')
      obtain ⟨_, u, v, hcs, _⟩ := iface_of_trod hi hd
      obtain ⟨l0⟩ := cs
      have hcs : l0 = [.iface u v] := hcs
      subst hcs
      exact ⟨.iface u v, by simpa using World.var?_cell hg hvar 0, .inr ⟨u, v, rfl⟩⟩
    · exact laidVars_iface hg hty hi hr e1

def litCell : DataW Unit → List Value
  | .lit (.int k z) => [.int k z]
  | .agg l => l.flatMap fun d => match d with
    | .lit (.int k z) => [.int k z]
    | _ => []
  | _ => []
/-- The cells of a table of numbers, or of pairs of numbers. -/
def tabCells2 : DataW Unit → Array Value
  | .agg l => (l.flatMap litCell).toArray
  | _ => #[]

end Go.Mach
namespace Go.Proofs.YtlgcbiacijgcmaaGreatDoor
open Go.Mach Go.Lib Go.RowKit
set_option maxRecDepth 100000

abbrev rangeS : ByteArray := ⟨#[118, 97, 108, 117, 101, 32, 111, 117, 116, 32, 111, 102, 32, 114, 97, 110, 103, 101]⟩
abbrev synS : ByteArray := ⟨#[105, 110, 118, 97, 108, 105, 100, 32, 115, 121, 110, 116, 97, 120]⟩
noncomputable def low : Nat := (World.holding Tryz.prog default ⟨#[], #[], []⟩).heap.size
noncomputable def laidWorld (os : Os) : World :=
  let w0 := World.holding Tryz.prog os ⟨#[.cells #[.string rangeS] 318, .cells #[.string synS] 318], #[], []⟩
  let put (h : Array Obj) (g : Nat) (cs : Array Value) : Array Obj := h.modify g fun
    | .cells _ t frozen => .cells cs t frozen
    | o => o
  let h0 := put w0.heap 6 (tabCells2 Rows.laid_math_bits_deBruijn32tab)
  let h1 := put h0 7 (tabCells2 Rows.laid_math_bits_deBruijn64tab)
  let h2 := put h1 1 (tabCells2 Rows.laid_internal_strconv_uint64pow10)
  let h3 := put h2 3 (tabCells2 Rows.laid_unicode_utf8_acceptRanges)
  let h4 := put h3 5 #[.iface 316 (.pointer (some ⟨low, 0, none⟩))]
  let h5 := put h4 4 #[.iface 316 (.pointer (some ⟨low + 1, 0, none⟩))]
  let h6 := put h5 2 (tabCells2 Rows.laid_unicode_utf8_first)
  { w0 with heap := h6 }
theorem laid_met (os : Os) (avs : Array Value) : laidMet Tryz.prog Rows.consoleStepsRow.laid ((laidWorld os).forCall (fun _ _ => 0) ⟨#[], avs, []⟩).memory :=
  (LaidIn.of_run [6, 7, 1, 3, 5, low, 4, low + 1, 2] 8 (by kernel_rfl) (by kernel_rfl) (by kernel_rfl) (by kernel_rfl)).met

theorem lib_vars {W : World} (hL : laidMet Tryz.prog Rows.consoleStepsRow.laid W) (hs : W.ShapedOpen Tryz.prog) : LibVars W := by
  refine ⟨?_, Tryz.laysM146.s1_3 W hs, ?_⟩
  · exact laid_tab (l := Rows.consoleStepsRow.laid) (g := 1) (t := 252) (e := 26) (n := 20) (by kernel_rfl) (by kernel_rfl) (by kernel_rfl) (by kernel_rfl) (by kernel_rfl) (by kernel_rfl) hL
      (by rw [show ("internal/strconv.uint64pow10", Lib.tabData .u64 Lib.pow10Tab) = ("internal/strconv.uint64pow10", (Rows.laid_internal_strconv_uint64pow10 : DataW Unit)) by kernel_rfl]; exact .tail _ (.tail _ (.head _)))
  · obtain ⟨ps, h1, _⟩ := hL
    exact laidVars_iface (g := 4) (ti := 149) (by kernel_rfl) (by kernel_rfl) Tryz.underlying149 h1 (.tail _ (.tail _ (.tail _ (.tail _ (.tail _ (.head _))))))

end Go.Proofs.YtlgcbiacijgcmaaGreatDoor
