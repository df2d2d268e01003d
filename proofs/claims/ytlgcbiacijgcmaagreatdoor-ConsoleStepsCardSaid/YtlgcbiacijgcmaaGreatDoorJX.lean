/- THE LINES OF THE CONSOLE, told by a table, wherever it lies. No condition. -/
import Derived.Test.YtlgcbiacijgcmaaGreatDoorJN0
import Derived.Test.YtlgcbiacijgcmaaGreatDoorJN1
import Derived.Test.YtlgcbiacijgcmaaGreatDoorJN2
import Derived.Test.YtlgcbiacijgcmaaGreatDoorJN3
import Derived.Test.YtlgcbiacijgcmaaGreatDoorJN4
import Derived.Test.YtlgcbiacijgcmaaGreatDoorJN5
import Derived.Test.YtlgcbiacijgcmaaGreatDoorJL0
import Derived.Test.YtlgcbiacijgcmaaGreatDoorJL1
import Derived.Test.YtlgcbiacijgcmaaGreatDoorJCC
namespace Go.Mach.J
open Go Go.Mach Go.RowKit
set_option maxRecDepth 100000


theorem hold1 {p : Prop} (h : p = True) : Hold p := ⟨of_eq_true h⟩
theorem wfK_nod {e : EK} (h : wfK e = true) : nodK e.D = true ∧ nodK e.D1 = true := by
  simp only [wfK, Bool.and_eq_true] at h
  exact ⟨h.1.1.1.1.1.2, h.1.1.1.1.2⟩
theorem wfN (n : Nat) (h : n < 36) : wfK (eN n) = true := List.all_eq_true.1 (show (List.range 36).all (fun n => wfK (eN n)) = true by kernel_rfl) n (List.mem_range.2 h)
theorem wfT (n k : Nat) (h : n < 34) (hk : k < 4) : wfK (eT n k) = true :=
  List.all_eq_true.1 (List.all_eq_true.1 (show (List.range 34).all (fun n => (List.range 4).all fun k => wfK (eT n k)) = true by kernel_rfl) n (List.mem_range.2 h)) k (List.mem_range.2 hk)
theorem wfP (n : Nat) (h : n < 37) : wfK (eP n) = true := List.all_eq_true.1 (show (List.range 37).all (fun n => wfK (eP n)) = true by kernel_rfl) n (List.mem_range.2 h)
theorem wfV (n : Nat) (h : n < 37) : wfK (eV n) = true := List.all_eq_true.1 (show (List.range 37).all (fun n => wfK (eV n)) = true by kernel_rfl) n (List.mem_range.2 h)
theorem wfC (n : Nat) (h : n < 37) : wfK (eC n) = true := List.all_eq_true.1 (show (List.range 37).all (fun n => wfK (eC n)) = true by kernel_rfl) n (List.mem_range.2 h)
theorem wfW : wfK eW = true := by kernel_rfl
theorem wfP2 : wfK eP2 = true := by kernel_rfl
theorem wfW2 : wfK eW2 = true := by kernel_rfl
theorem wfO : wfK eO = true := by kernel_rfl
theorem stps : ∀ n, n < 36 → Hold (runK (kcall extB0 Go.Proofs.Tryz.prog xk 100000) (eN n).D (eN n))
  | 0, _ => hold1 stp0
  | 1, _ => hold1 stp1
  | 2, _ => hold1 stp2
  | 3, _ => hold1 stp3
  | 4, _ => hold1 stp4
  | 5, _ => hold1 stp5
  | 6, _ => hold1 stp6
  | 7, _ => hold1 stp7
  | 8, _ => hold1 stp8
  | 9, _ => hold1 stp9
  | 10, _ => hold1 stp10
  | 11, _ => hold1 stp11
  | 12, _ => hold1 stp12
  | 13, _ => hold1 stp13
  | 14, _ => hold1 stp14
  | 15, _ => hold1 stp15
  | 16, _ => hold1 stp16
  | 17, _ => hold1 stp17
  | 18, _ => hold1 stp18
  | 19, _ => hold1 stp19
  | 20, _ => hold1 stp20
  | 21, _ => hold1 stp21
  | 22, _ => hold1 stp22
  | 23, _ => hold1 stp23
  | 24, _ => hold1 stp24
  | 25, _ => hold1 stp25
  | 26, _ => hold1 stp26
  | 27, _ => hold1 stp27
  | 28, _ => hold1 stp28
  | 29, _ => hold1 stp29
  | 30, _ => hold1 stp30
  | 31, _ => hold1 stp31
  | 32, _ => hold1 stp32
  | 33, _ => hold1 stp33
  | 34, _ => hold1 stp34
  | 35, _ => hold1 stp35
  | n + 36, h => absurd h (by omega)
theorem and4 {a b c d : Prop} (h : (a ∧ b ∧ c ∧ d) = (True ∧ True ∧ True ∧ True)) : a ∧ b ∧ c ∧ d := h.symm ▸ ⟨trivial, trivial, trivial, trivial⟩
theorem and2 {a b : Prop} (h : (a ∧ b) = (True ∧ True)) : a ∧ b := h.symm ▸ ⟨trivial, trivial⟩
theorem lns : ∀ n, n < 34 → (runK ck1 (eT n 0).D (eT n 0) ∧ runK ck1 (eT n 1).D (eT n 1) ∧ runK ck1 (eT n 2).D (eT n 2) ∧ runK ck1 (eT n 3).D (eT n 3))
  | 0, _ => and4 ln0
  | 1, _ => and4 ln1
  | 2, _ => and4 ln2
  | 3, _ => and4 ln3
  | 4, _ => and4 ln4
  | 5, _ => and4 ln5
  | 6, _ => and4 ln6
  | 7, _ => and4 ln7
  | 8, _ => and4 ln8
  | 9, _ => and4 ln9
  | 10, _ => and4 ln10
  | 11, _ => and4 ln11
  | 12, _ => and4 ln12
  | 13, _ => and4 ln13
  | 14, _ => and4 ln14
  | 15, _ => and4 ln15
  | 16, _ => and4 ln16
  | 17, _ => and4 ln17
  | 18, _ => and4 ln18
  | 19, _ => and4 ln19
  | 20, _ => and4 ln20
  | 21, _ => and4 ln21
  | 22, _ => and4 ln22
  | 23, _ => and4 ln23
  | 24, _ => and4 ln24
  | 25, _ => and4 ln25
  | 26, _ => and4 ln26
  | 27, _ => and4 ln27
  | 28, _ => and4 ln28
  | 29, _ => and4 ln29
  | 30, _ => and4 ln30
  | 31, _ => and4 ln31
  | 32, _ => and4 ln32
  | 33, _ => and4 ln33
  | n + 34, h => absurd h (by omega)
theorem sts : ∀ n, n < 37 → (runK ck1 (eP n).D (eP n) ∧ runK ck1 (eV n).D (eV n))
  | 0, _ => and2 st0
  | 1, _ => and2 st1
  | 2, _ => and2 st2
  | 3, _ => and2 st3
  | 4, _ => and2 st4
  | 5, _ => and2 st5
  | 6, _ => and2 st6
  | 7, _ => and2 st7
  | 8, _ => and2 st8
  | 9, _ => and2 st9
  | 10, _ => and2 st10
  | 11, _ => and2 st11
  | 12, _ => and2 st12
  | 13, _ => and2 st13
  | 14, _ => and2 st14
  | 15, _ => and2 st15
  | 16, _ => and2 st16
  | 17, _ => and2 st17
  | 18, _ => and2 st18
  | 19, _ => and2 st19
  | 20, _ => and2 st20
  | 21, _ => and2 st21
  | 22, _ => and2 st22
  | 23, _ => and2 st23
  | 24, _ => and2 st24
  | 25, _ => and2 st25
  | 26, _ => and2 st26
  | 27, _ => and2 st27
  | 28, _ => and2 st28
  | 29, _ => and2 st29
  | 30, _ => and2 st30
  | 31, _ => and2 st31
  | 32, _ => and2 st32
  | 33, _ => and2 st33
  | 34, _ => and2 st34
  | 35, _ => and2 st35
  | 36, _ => and2 st36
  | n + 37, h => absurd h (by omega)
theorem runN (n : Nat) (h : n < 36) : (eN n).e.Run (callG extB0 (extF0 Go.Proofs.Tryz.prog) Go.Proofs.Tryz.prog 100000) :=
  run_ok (calls_ok (xk_ok Go.Proofs.Tryz.prog) (callG_kept extB0 (extF0_kept Go.Proofs.Tryz.prog) Go.Proofs.Tryz.prog) 100000) (wfK_nod (wfN n h)).1 (fun q hq => hq) (stps n h).out

inductive Tab : EK → Prop
  | t (n k : Nat) (hn : n < 34) (hk : k < 4) : Tab (eT n k)
  | p (n : Nat) (hn : n < 37) : Tab (eP n)
  | v (n : Nat) (hn : n < 37) : Tab (eV n)
  | c (n : Nat) (hn : n < 37) : Tab (eC n)
  | w : Tab eW
  | p2 : Tab eP2
  | w2 : Tab eW2
  | o : Tab eO
theorem tab_wf {e : EK} (h : Tab e) : wfK e = true := by
  cases h with
  | t n k hn hk => exact wfT n k hn hk
  | p n hn => exact wfP n hn
  | v n hn => exact wfV n hn
  | c n hn => exact wfC n hn
  | w => exact wfW
  | p2 => exact wfP2
  | w2 => exact wfW2
  | o => exact wfO
theorem tab_run {xf : Caller} (hS : CallS (callG extB1 xf Go.Proofs.Tryz.prog 100000) ck1) {e : EK} (h : Tab e) : e.e.Run (callG extB1 xf Go.Proofs.Tryz.prog 100000) := by
  have hn := (wfK_nod (tab_wf h)).1
  cases h with
  | t n k h hk =>
    refine run_ok hS hn (fun q hq => hq) ?_
    obtain ⟨h0, h1, h2, h3⟩ := lns n h
    match k, hk with
    | 0, _ => exact h0
    | 1, _ => exact h1
    | 2, _ => exact h2
    | 3, _ => exact h3
  | p n h => exact run_ok hS hn (fun q hq => hq) (sts n h).1
  | v n h => exact run_ok hS hn (fun q hq => hq) (sts n h).2
  | c n h => exact runR_ok hS hn (D0 := stN ++ stC ++ [(510, trB (.int .i64 (.ofNat n)) (s (q0 + offP) 0 4 4))]) (fun _ hq => List.mem_append_left _ hq) (hold1 (lc n (q0 + offP))).out
  | w => exact run_ok hS hn (fun q hq => hq) (hold1 lw).out
  | p2 => exact run_ok hS hn (fun q hq => hq) (hold1 lp2).out
  | w2 => exact run_ok hS hn (fun q hq => hq) (hold1 lw2).out
  | o => exact run_ok hS hn (fun q hq => hq) (hold1 lo).out

/-! ### Where the console lies -/

structure FitsD (D : DomK) (σ : Nat → Nat) (fl : Nat) (H : AHeap) : Prop where
  at_ : ∀ b B, (dmK D).get b = some B → fl ≤ σ b ∧ H[σ b]? = some (mvB σ B)
  inj : ∀ b c, memK D b = true → memK D c = true → σ b = σ c → b = c
theorem FitsD.fits {e : EK} {σ : Nat → Nat} {fl : Nat} {H : AHeap} (h : FitsD e.D σ fl H) : Fits e.e σ fl H :=
  ⟨h.at_, fun b c hb hc he => h.inj b c (by rw [← memK_has]; exact hb) (by rw [← memK_has]; exact hc) he⟩
theorem Fits.fitsD {e : EK} {σ : Nat → Nat} {fl : Nat} {H : AHeap} (h : Fits e.e σ fl H) : FitsD e.D σ fl H :=
  ⟨h.at_, fun b c hb hc he => h.inj b c (by show (dmK e.D).has b = true; rw [memK_has]; exact hb) (by show (dmK e.D).has c = true; rw [memK_has]; exact hc) he⟩

/-- Behind the call its blocks lie there. -/
theorem out_fits {e : EK} {σ : Nat → Nat} {fl : Nat} {H : AHeap} (hw : wfK e = true) (hF : FitsD e.D σ fl H) (hfl : fl ≤ H.length) : FitsD e.D1 (sgm e.e σ H.length) fl (outH e.e σ H) := by
  have hw' := wfK_ok hw
  have hf := hF.fits
  have lt : ∀ b B, e.e.D.get b = some B → σ b < H.length := fun b B hb => (List.getElem?_eq_some_iff.1 (hf.at_ b B hb).2).1
  refine ⟨fun b B hb => ?_, fun b c hb hc he => ?_⟩
  · have h1 := hw'.D1 b B hb
    by_cases hn : b < e.e.n
    · obtain ⟨B0, hB0, _⟩ := h1.2.2.2.2 hn
      have e1 : sgm e.e σ H.length b = σ b := if_pos hn
      rw [e1]
      obtain ⟨h2, h3⟩ := hf.at_ b B0 hB0
      refine ⟨h2, ?_⟩
      rw [out_old h3]
      unfold outOld
      cases hwho : whoD σ (σ b) e.e.D with
      | none => exact absurd rfl (whoD_none hwho b (Dom.get_has hB0))
      | some c =>
        obtain ⟨h4, h5⟩ := whoD_some hwho
        have := hf.inj c b h5 (Dom.get_has hB0) h4
        subst this
        have hb' : e.e.D1.get c = some B := hb
        simp only [hb']
    · have e1 : sgm e.e σ H.length b = H.length + (b - e.e.n) := if_neg hn
      rw [e1]
      refine ⟨by omega, ?_⟩
      rw [out_new (by have := h1.2.1; omega)]
      unfold outNew
      rw [show e.e.n + (b - e.e.n) = b by omega]
      have hb' : e.e.D1.get b = some B := hb
      simp only [hb']
  · have getD1 : ∀ b, memK e.D1 b = true → b < e.e.n → ∃ B0, e.e.D.get b = some B0 := fun b hb hn => by
      obtain ⟨B, hB⟩ := Dom.has_get (D := dmK e.D1) (b := b) (by rw [memK_has]; exact hb)
      obtain ⟨B0, hB0, _⟩ := (hw'.D1 b B hB).2.2.2.2 hn
      exact ⟨B0, hB0⟩
    unfold sgm at he
    split at he
    · rename_i h1
      obtain ⟨B0, hB0⟩ := getD1 b hb h1
      split at he
      · rename_i h2
        obtain ⟨C0, hC0⟩ := getD1 c hc h2
        exact hf.inj b c (Dom.get_has hB0) (Dom.get_has hC0) he
      · have := lt b B0 hB0
        omega
    · split at he
      · rename_i h2
        obtain ⟨C0, hC0⟩ := getD1 c hc h2
        have := lt c C0 hC0
        omega
      · omega

theorem mvC_comp (σ τ : Nat → Nat) (v : Value) : mvC σ (mvC τ v) = mvC (fun b => σ (τ b)) v := by
  cases v with
  | pointer a =>
    cases a with
    | none => rfl
    | some a => obtain ⟨b, o, s⟩ := a; cases s <;> rfl
  | slice a n c =>
    cases a with
    | none => rfl
    | some a => obtain ⟨b, o, s⟩ := a; cases s <;> rfl
  | _ => rfl
theorem mvB_comp (σ τ : Nat → Nat) (B : Blk) : mvB σ (mvB τ B) = mvB (fun b => σ (τ b)) B := by
  unfold mvB
  simp only [List.map_map]
  rw [show mvC σ ∘ mvC τ = mvC fun b => σ (τ b) from funext fun v => mvC_comp σ τ v]
theorem mem_mvD {τ : Nat → Nat} {D : DomK} {b : Nat} (h : memK D b = true) : memK (mvD τ D) (τ b) = true := by
  unfold memK at h ⊢
  rw [List.any_eq_true] at h ⊢
  obtain ⟨p, hp, e⟩ := h
  exact ⟨(τ p.1, mvK τ p.2), List.mem_map.2 ⟨p, hp, rfl⟩, by rw [Nat.eq_of_beq_eq_true e]; exact Nat.beq_refl _⟩
theorem memK_of {D : DomK} {p : Nat × KD} (h : p ∈ D) : memK D p.1 = true := by
  unfold memK
  rw [List.any_eq_true]
  exact ⟨p, h, Nat.beq_refl _⟩
theorem memK_ex {D : DomK} {b : Nat} (h : memK D b = true) : ∃ p ∈ D, p.1 = b := by
  unfold memK at h
  rw [List.any_eq_true] at h
  obtain ⟨p, hp, e⟩ := h
  exact ⟨p, hp, Nat.eq_of_beq_eq_true e⟩
theorem nod_inj {τ : Nat → Nat} : ∀ {D : DomK}, nodK (mvD τ D) = true → ∀ b c, memK D b = true → memK D c = true → τ b = τ c → b = c
  | [], _, b, c, hb, _, _ => by cases hb
  | p :: r, hn, b, c, hb, hc, he => by
    have hn : (!(memK (mvD τ r) (τ p.1)) && nodK (mvD τ r)) = true := hn
    simp only [Bool.and_eq_true, Bool.not_eq_true'] at hn
    have hd : ∀ x, memK (p :: r) x = true → x = p.1 ∨ memK r x = true := fun x hx => by
      unfold memK at hx
      simp only [List.any_cons, Bool.or_eq_true] at hx
      rcases hx with hx | hx
      · exact .inl (Nat.eq_of_beq_eq_true hx).symm
      · exact .inr hx
    rcases hd b hb with rfl | hb'
    · rcases hd c hc with rfl | hc'
      · rfl
      · have := mem_mvD (τ := τ) hc'
        rw [← he, hn.1] at this
        cases this
    · rcases hd c hc with rfl | hc'
      · have := mem_mvD (τ := τ) hb'
        rw [he, hn.1] at this
        cases this
      · exact nod_inj hn.2 b c hb' hc' he
/-- The same blocks under other names. -/
theorem FitsD.shift {τ σ : Nat → Nat} {D : DomK} {fl : Nat} {H : AHeap} (hn : nodK (mvD τ D) = true) (h : FitsD (mvD τ D) σ fl H) : FitsD D (fun b => σ (τ b)) fl H := by
  refine ⟨fun b B hb => ?_, fun b c hb hc he => ?_⟩
  · obtain ⟨d, hd, rfl⟩ := get_memK hb
    have h1 := memK_get hn (τ b, mvK τ d) (List.mem_map.2 ⟨(b, d), hd, rfl⟩)
    have h2 := h.at_ _ _ h1
    simp only [mvK_blk, mvB_comp] at h2
    exact h2
  · exact nod_inj hn b c hb hc (h.inj _ _ (mem_mvD hb) (mem_mvD hc) he)

def St (n c fl : Nat) (H : AHeap) : Prop := ∃ σ, FitsD (DD n q0) σ fl H ∧ σ 959 = c
def StC (c fl : Nat) (H : AHeap) : Prop := ∃ σ, FitsD DC σ fl H ∧ σ 959 = c
theorem shm : ∀ m, m < 37 → ∀ p, mvD (sgN p) (DD m q0) = DD m p
  | 0, _ => fun p => by kernel_rfl
  | 1, _ => fun p => by kernel_rfl
  | 2, _ => fun p => by kernel_rfl
  | 3, _ => fun p => by kernel_rfl
  | 4, _ => fun p => by kernel_rfl
  | 5, _ => fun p => by kernel_rfl
  | 6, _ => fun p => by kernel_rfl
  | 7, _ => fun p => by kernel_rfl
  | 8, _ => fun p => by kernel_rfl
  | 9, _ => fun p => by kernel_rfl
  | 10, _ => fun p => by kernel_rfl
  | 11, _ => fun p => by kernel_rfl
  | 12, _ => fun p => by kernel_rfl
  | 13, _ => fun p => by kernel_rfl
  | 14, _ => fun p => by kernel_rfl
  | 15, _ => fun p => by kernel_rfl
  | 16, _ => fun p => by kernel_rfl
  | 17, _ => fun p => by kernel_rfl
  | 18, _ => fun p => by kernel_rfl
  | 19, _ => fun p => by kernel_rfl
  | 20, _ => fun p => by kernel_rfl
  | 21, _ => fun p => by kernel_rfl
  | 22, _ => fun p => by kernel_rfl
  | 23, _ => fun p => by kernel_rfl
  | 24, _ => fun p => by kernel_rfl
  | 25, _ => fun p => by kernel_rfl
  | 26, _ => fun p => by kernel_rfl
  | 27, _ => fun p => by kernel_rfl
  | 28, _ => fun p => by kernel_rfl
  | 29, _ => fun p => by kernel_rfl
  | 30, _ => fun p => by kernel_rfl
  | 31, _ => fun p => by kernel_rfl
  | 32, _ => fun p => by kernel_rfl
  | 33, _ => fun p => by kernel_rfl
  | 34, _ => fun p => by kernel_rfl
  | 35, _ => fun p => by kernel_rfl
  | 36, _ => fun p => by kernel_rfl
  | n + 37, h => absurd h (by omega)

/-- What the console's blocks tell: the step, the disk's operations. -/
def ptrOf : Option Value → Option Nat
  | some (.pointer (some a)) => some a.block
  | _ => none
def cellOf (H : AHeap) (b i : Nat) : Option Value := (H[b]?).bind fun B => B.cells[i]?
def keyH (H : AHeap) (c : Nat) : Option (Option Value × Option Value) :=
  (ptrOf (cellOf H c 0)).bind fun t => (ptrOf (cellOf H t 20)).map fun d => (cellOf H t 18, cellOf H d 3)
theorem cell_of {D : DomK} {σ : Nat → Nat} {fl : Nat} {H : AHeap} (h : FitsD D σ fl H) {b i : Nat} {v : Value} (hv : ((dmK D).get b).bind (fun B => B.cells[i]?) = some v) : cellOf H (σ b) i = some (mvC σ v) := by
  cases hB : (dmK D).get b with
  | none => rw [hB] at hv; cases hv
  | some B =>
    rw [hB] at hv
    have hv : B.cells[i]? = some v := hv
    unfold cellOf
    rw [(h.at_ b B hB).2]
    simp only [Option.bind_some, mvB, List.getElem?_map, hv, Option.map_some]
theorem key_of {D : DomK} {σ : Nat → Nat} {fl : Nat} {H : AHeap} (h : FitsD D σ fl H) {a x : Nat} (h1 : ((dmK D).get 959).bind (fun B => B.cells[0]?) = some (p 510 0)) (h2 : ((dmK D).get 510).bind (fun B => B.cells[20]?) = some (p 509 0))
    (h3 : ((dmK D).get 510).bind (fun B => B.cells[18]?) = some (i a)) (h4 : ((dmK D).get 509).bind (fun B => B.cells[3]?) = some (i x)) : keyH H (σ 959) = some (some (i a), some (i x)) := by
  unfold keyH
  rw [cell_of h h1]
  show (ptrOf (cellOf H (σ 510) 20)).map (fun d => (cellOf H (σ 510) 18, cellOf H d 3)) = _
  rw [cell_of h h2, cell_of h h3]
  show some (some (mvC σ (i a)), cellOf H (σ 509) 3) = _
  rw [cell_of h h4]
  rfl
theorem key_D {n : Nat} {σ : Nat → Nat} {fl : Nat} {H : AHeap} (h : FitsD (DD n q0) σ fl H) : keyH H (σ 959) = some (some (i n), some (i 1)) := key_of h (by rfl) (by rfl) (by rfl) (by rfl)
theorem key_C {σ : Nat → Nat} {fl : Nat} {H : AHeap} (h : FitsD DC σ fl H) : keyH H (σ 959) = some (some (i 0), some (i 2)) := key_of h (by rfl) (by rfl) (by rfl) (by rfl)
end Go.Mach.J
