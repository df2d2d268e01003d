/- THE STEP OF LEARNING, told by a table, wherever its blocks lie. No condition. -/
import Derived.Test.YtlgcbiacijgcmaaGreatDoorJS
import Derived.Test.YtlgcbiacijgcmaaGreatDoorExtS
namespace Go.Mach.J
open Go Go.Mach Go.RowKit

def mvK (σ : Nat → Nat) : KD → KD
  | .l cs es ex => .l (cs.map (mvC σ)) es ex
  | .c v n es ex => .c (mvC σ v) n es ex
theorem mvK_blk (σ : Nat → Nat) (d : KD) : (mvK σ d).blk = mvB σ d.blk := by
  cases d with
  | l cs es ex => rfl
  | c v n es ex => simp [mvK, KD.blk, mvB, List.map_replicate]
def mvD (σ : Nat → Nat) (D : DomK) : DomK := D.map fun p => (σ p.1, mvK σ p.2)

theorem mvC_same {σ τ : Nat → Nat} {d : Nat → Bool} (h : ∀ b, d b = true → σ b = τ b) {v : Value} (hv : clC d v = true) : mvC σ v = mvC τ v := by
  unfold clC at hv
  split at hv <;> first | (cases hv; done) | rfl | (simp only [mvC, h _ hv])
theorem mvB_same {σ τ : Nat → Nat} {d : Nat → Bool} (h : ∀ b, d b = true → σ b = τ b) {B : Blk} (hv : B.cells.all (clC d) = true) : mvB σ B = mvB τ B := by
  unfold mvB
  rw [show B.cells.map (mvC σ) = B.cells.map (mvC τ) from List.map_congr_left fun v hm => mvC_same h (List.all_eq_true.1 hv v hm)]

/-- A call that writes nothing of what was there leaves it. -/
theorem ext_old {e : Entry} {σ : Nat → Nat} {fl : Nat} {H : AHeap} (hw : e.Wf) (hF : Fits e σ fl H) (hx : ∀ b B, e.D.get b = some B → e.D1.get b = some B) {id : Nat} {B : Blk} (h : H[id]? = some B) : (outH e σ H)[id]? = some B := by
  rw [out_old h]
  unfold outOld
  split
  · rename_i b hb
    obtain ⟨h1, h2⟩ := whoD_some hb
    obtain ⟨B0, hB0⟩ := Dom.has_get h2
    have hw0 := hw.D b B0 hB0
    rw [hx b B0 hB0]
    have h3 := (hF.at_ b B0 hB0).2
    rw [h1, h] at h3
    simp only [Option.some.injEq] at h3 ⊢
    rw [h3]
    refine mvB_same (d := e.D.has) (fun c hc => ?_) hw0.2.2.2
    obtain ⟨C, hC⟩ := Dom.has_get hc
    exact if_pos (hw.D c C hC).2.1
  · rfl

def exN : FuncId := 158
def extB1 (f : FuncId) : Bool := extB0 f || f == exN
/-- What lies behind the step's own blocks. -/
def qOf : List Value → Nat × Nat
  | [_, _, _, .agg ⟨[_, .int .i64 (.ofNat n), .slice (some ⟨b, _, none⟩) _ _]⟩] => (n, b - offP)
  | _ => (0, 0)
def sgN (q : Nat) (x : Nat) : Nat := match Nat.blt x q0 with
  | true => x
  | false => q + (x - q0)
/-- Nothing lies there yet. -/
def noneK (t : Tr (Option KB)) (m n : Nat) (p : Prop) : Prop := Nat.rec (motive := fun _ => Prop) p (fun j ih => forceN (m + j) fun b => getB (pth b) t fun o => onOpt o ih fun _ => False) n
theorem noneK_out {t : Tr (Option KB)} {m : Nat} : ∀ (n : Nat) {p : Prop}, noneK t m n p → (∀ b, m ≤ b → b < m + n → t.get (pth b) = none) ∧ p
  | 0, _, h => ⟨fun b h1 h2 => by omega, h⟩
  | n + 1, p, h => by
    have h1 := (forceN_iff (k := fun b => getB (pth b) t fun o => onOpt o (noneK t m n p) fun _ => False)).1 h
    have h2 := (getB_iff (pth (m + n)) t (fun o => onOpt o (noneK t m n p) fun _ => False)).1 h1
    cases hg : t.get (pth (m + n)) with
    | some B => rw [hg] at h2; exact h2.elim
    | none =>
      rw [hg] at h2
      obtain ⟨h3, h4⟩ := noneK_out n (show noneK t m n p from h2)
      refine ⟨fun b h5 h6 => ?_, h4⟩
      by_cases he : b = m + n
      · rw [he]; exact hg
      · exact h3 b h5 (by omega)
def xkN : KC := fun fl f args H k => ifB (Nat.beq f exN)
  (HT.rec (motive := fun _ => Prop) (fun m t => Prod.rec (motive := fun _ => Prop) (fun n q =>
    chk (eqAs args (argN n (q + offP)) && (Nat.blt n 36 && (Nat.ble q0 q && (Nat.ble fl 5 && Nat.ble m 900000))))
      (chkD (mvD (sgN q) (eN n).D) ⟨m, t⟩ (noneK t m stepN <| forceN (m + stepN) fun m1 => mkD m1 (mvD (sgm (eN n).e (sgN q) m) (SB (n + 1) n0)) t fun T => k (vN (n + 1) (m + offP)) ⟨m1, T⟩))) (qOf args)) H)
  (xk fl f args H k)

theorem eN_len (n : Nat) : (eN n).n = n0 ∧ (eN n).n1 = n0 + stepN := ⟨rfl, rfl⟩
theorem dmK_app (A B : DomK) : dmK (A ++ B) = dmK A ++ dmK B := List.map_append
theorem get_cons (p : Nat × Blk) (r : Dom) (b : Nat) : Dom.get (p :: r) b = match Nat.beq p.1 b with
  | true => some p.2
  | false => Dom.get r b := rfl
theorem get_app {A B : Dom} {b : Nat} {C : Blk} (h : A.get b = some C) : (A ++ B : Dom).get b = some C := by
  induction A with
  | nil => cases h
  | cons p r ih =>
    show Dom.get (p :: (r ++ B)) b = some C
    rw [get_cons] at h ⊢
    cases e : Nat.beq p.1 b with
    | true => rw [e] at h; exact h
    | false => rw [e] at h; exact ih h
theorem sgN_lt {q x : Nat} (h : x < q0) : sgN q x = x := by
  unfold sgN
  rw [show Nat.blt x q0 = true by simpa [Nat.blt_eq] using h]
theorem sgN_ge {q x : Nat} (h : ¬ x < q0) : sgN q x = q + (x - q0) := by
  unfold sgN
  have : Nat.blt x q0 = false := by
    cases hb : Nat.blt x q0 with
    | false => rfl
    | true => exact absurd (by simpa [Nat.blt_eq] using hb) h
  rw [this]
theorem sgN_inj {q : Nat} (hq : q0 ≤ q) {b c : Nat} (h : sgN q b = sgN q c) : b = c := by
  by_cases h1 : b < q0
  · by_cases h2 : c < q0
    · rw [sgN_lt h1, sgN_lt h2] at h; exact h
    · rw [sgN_lt h1, sgN_ge h2] at h; omega
  · by_cases h2 : c < q0
    · rw [sgN_ge h1, sgN_lt h2] at h; omega
    · rw [sgN_ge h1, sgN_ge h2] at h; omega

open Classical in
/-- The table of the steps: what each comes to, wherever its blocks lie. -/
theorem next_table {P : Program} {N : Nat} (hwf : ∀ n, n < 36 → wfK (eN n) = true) (hrun : ∀ n, n < 36 → (eN n).e.Run (callG extB0 (extF0 P) P N)) (hm : P.follows .mixedOrders = true)
    (hsnd : ∀ {base : Nat} {w0 : World}, LibVars w0 → gTop ≤ base → CallerSound base w0 P (extF0 P)) (h5 : gTop = 5) :
    ∃ xf : Caller, CallerKept xf ∧ CallS xf xkN ∧ ∀ {base : Nat} {w0 : World}, LibVars w0 → gTop ≤ base → CallerSound base w0 P xf := by
  let Ok (fl : Nat) (args : Array Value) (H : AHeap) (n q : Nat) : Prop := args.toList = argN n (q + offP) ∧ n < 36 ∧ q0 ≤ q ∧ Fits (eN n).e (sgN q) fl H
  let xf : Caller := fun fl f args H => if f = exN then
      (if Ok fl args H (qOf args.toList).1 (qOf args.toList).2 then
        some (mvV (sgm (eN (qOf args.toList).1).e (sgN (qOf args.toList).2) H.length) (eN (qOf args.toList).1).v, outH (eN (qOf args.toList).1).e (sgN (qOf args.toList).2) H) else none)
    else extF0 P fl f args H
  refine ⟨xf, ?_, ?_, ?_⟩
  · intro fl f args H v H' h
    simp only [xf] at h
    split at h
    · split at h
      · rename_i hok
        simp only [Option.some.injEq, Prod.mk.injEq] at h
        rw [← h.2]
        exact out_kept (wfK_ok (hwf _ hok.2.1)) hok.2.2.2
      · cases h
    · exact extF0_kept P fl f args H v H' h
  · intro fl f args K H k hH h
    rcases ifB_iff.1 h with ⟨hf, h⟩ | ⟨hf, h⟩
    · have hf := Nat.eq_of_beq_eq_true hf
      obtain ⟨m, t⟩ := K
      generalize hq : qOf args = nq at h
      obtain ⟨n, q⟩ := nq
      obtain ⟨h1, h2⟩ := chk_iff.1 (show chk (eqAs args (argN n (q + offP)) && (Nat.blt n 36 && (Nat.ble q0 q && (Nat.ble fl 5 && Nat.ble m 900000)))) _ from h)
      simp only [Bool.and_eq_true] at h1
      obtain ⟨a1, a2, a3, a4, a5⟩ := h1
      have a1 := eqAs_eq a1
      have a2 : n < 36 := by simpa [Nat.blt_eq] using a2
      have a3 := Nat.le_of_ble_eq_true a3
      have a4 := Nat.le_of_ble_eq_true a4
      have a5 := Nat.le_of_ble_eq_true a5
      have hw := wfK_ok (hwf n a2)
      obtain ⟨h3, h4⟩ := chkD_out hH _ h2
      have hm : m = H.length := hH.1
      have hFit : Fits (eN n).e (sgN q) fl H := by
        refine ⟨fun b B hb => ?_, fun b c hb hc he => ?_⟩
        · obtain ⟨d, hd, rfl⟩ := get_memK hb
          have h6 := h3 (sgN q b, mvK (sgN q) d) (List.mem_map.2 ⟨(b, d), hd, rfl⟩)
          simp only [mvK_blk] at h6
          refine ⟨?_, h6⟩
          have := (hw.D b _ hb).1
          have hq0 : q0 = 960 := rfl
          by_cases h1 : b < q0
          · rw [sgN_lt h1]; omega
          · rw [sgN_ge h1]; omega
        · exact sgN_inj a3 he
      obtain ⟨hno, h4⟩ := noneK_out _ h4
      have h5 := (forceN_iff (n := m + stepN) (k := fun m1 => mkD m1 (mvD (sgm (eN n).e (sgN q) m) (SB (n + 1) n0)) t fun T => k (vN (n + 1) (m + offP)) ⟨m1, T⟩)).1 h4
      have hst : stepN ≤ 100000 := by decide
      obtain ⟨T, h6, h7⟩ := mkD_out (n := m + stepN) (by unfold big; omega) _ h5
      have hl : (outH (eN n).e (sgN q) H).length = m + stepN := by
        rw [out_len, hm]
        show H.length + (n0 + stepN - n0) = _
        omega
      have hold : ∀ {id : Nat} {B : Blk}, H[id]? = some B → (outH (eN n).e (sgN q) H)[id]? = some B := fun h => ext_old hw hFit (fun b B hb => by
        show (dmK ((eN n).D ++ SB (n + 1) n0)).get b = some B
        rw [dmK_app]
        exact get_app hb) h
      refine ⟨vN (n + 1) (m + offP), ⟨m + stepN, T⟩, outH (eN n).e (sgN q) H, ?_, ⟨hl.symm, by show m + stepN ≤ big; unfold big; omega, ?_⟩, h6⟩
      · simp only [xf]
        rw [if_pos hf]
        have e1 : (qOf args).1 = n := by rw [hq]
        have e2 : (qOf args).2 = q := by rw [hq]
        rw [e1, e2, if_pos ⟨a1, a2, a3, hFit⟩, hm]
        rfl
      · refine h7 _ (fun x hx => ?_) fun b B hb hB => ?_
        · obtain ⟨p, hp, rfl⟩ := List.mem_map.1 hx
          have hpD : p ∈ (eN n).D1 := List.mem_append_right _ hp
          have hn1 : nodK (eN n).D1 = true := by
            have := hwf n a2
            simp only [wfK, Bool.and_eq_true] at this
            exact this.1.1.1.1.2
          have hg : (eN n).e.D1.get p.1 = some p.2.blk := memK_get hn1 p hpD
          have hr := SB_rng (n + 1) n0 p hp
          have hge : n0 ≤ p.1 := hr.1
          have hlt : p.1 < n0 + stepN := hr.2
          have e1 : sgm (eN n).e (sgN q) m p.1 = H.length + (p.1 - n0) := by
            rw [hm]
            exact if_neg (by show ¬ p.1 < n0; omega)
          show (outH (eN n).e (sgN q) H)[sgm (eN n).e (sgN q) m p.1]? = some (mvK (sgm (eN n).e (sgN q) m) p.2).blk
          rw [e1, out_new (e := (eN n).e) (by show p.1 - n0 < n0 + stepN - n0; omega), mvK_blk, hm]
          unfold outNew
          rw [show (eN n).e.n + (p.1 - n0) = p.1 by show n0 + (p.1 - n0) = p.1; omega, hg]
        · by_cases hlt : b < m
          · obtain ⟨L, hL, hBL⟩ := hH.2.2 b B hlt hB
            exact ⟨L, hold hL, hBL⟩
          · rw [hno b (by omega) hb] at hB; cases hB
    · obtain ⟨v, K', H', h1, h2, h3⟩ := xk_ok P fl f args K H k hH h
      refine ⟨v, K', H', ?_, h2, h3⟩
      simp only [xf]
      rw [if_neg (fun e => by rw [e] at hf; exact absurd hf (by decide))]
      exact h1
  · intro base w0 hL hb
    intro fl f args cargs ρ H H' w v S hbf hfl hfr hargs h
    simp only [xf] at h
    split at h
    · rename_i hf
      split at h
      · rename_i hok
        simp only [Option.some.injEq, Prod.mk.injEq] at h
        obtain ⟨rfl, rfl⟩ := h
        subst hf
        have hs : CallerSound 5 w0 P (callG extB0 (extF0 P) P N) := callG_sound extB0 (extF0_kept P) P (hsnd hL (by rw [h5]; exact Nat.le_refl 5)) hm N
        refine reloc hs (wfK_ok (hwf _ hok.2.1)) (hrun _ hok.2.1) S (by omega) hbf hfl hfr hok.2.2.2 ?_
        have e1 := hok.1
        rw [e1] at hargs
        rw [show (eN (qOf args.toList).1).e.args.map (mvA (sgN (qOf args.toList).2)) = argN (qOf args.toList).1 ((qOf args.toList).2 + offP) from rfl]
        exact hargs
      · cases h
    · exact hsnd hL hb fl f args cargs ρ H H' w v S hbf hfl hfr hargs h
end Go.Mach.J
