/- The same, where what is written down is not looked into. No condition. -/
import Derived.Test.YtlgcbiacijgcmaaGreatDoorJE
namespace Go.Mach.J
open Go Go.Mach

def mkR (d : KD) (k : KB → Prop) : Prop :=
  KD.rec (motive := fun _ => Prop) (fun cs es ex => newK cs es ex k) (fun v n es ex => chk (Nat.blt n big) (onOne v (k ⟨.c v, n, es, ex⟩))) d
def mkE (n : Nat) (D : DomK) : Tr (Option KB) → (Tr (Option KB) → Prop) → Prop :=
  List.rec (motive := fun _ => Tr (Option KB) → (Tr (Option KB) → Prop) → Prop) (fun T k => k T) (fun q _ ih T k => chk (Nat.blt q.1 n) (mkR q.2 fun B => setB (some B) (pth q.1) T fun T => ih T k)) D

theorem mkR_out {d : KD} {k : KB → Prop} (h : mkR d k) : ∃ B, BRel B d.blk ∧ k B := by
  cases d with
  | l cs es ex =>
    obtain ⟨B, h1, _, h2⟩ := new_out (show newK cs es ex k from h)
    exact ⟨B, h1, h2⟩
  | c v n es ex =>
    obtain ⟨h1, h2⟩ := chk_iff.1 (show chk (Nat.blt n big) (onOne v (k ⟨.c v, n, es, ex⟩)) from h)
    obtain ⟨h3, _, h4⟩ := onOne_out h2
    refine ⟨_, ⟨rfl, rfl, rfl, by simp [KD.blk], ?_, fun i hi => ?_⟩, h4⟩
    · have : n < big := by simpa [Nat.blt_eq] using h1
      exact Nat.le_of_lt this
    · simp only at hi
      rw [Tr.get_c]
      exact ⟨by simp only [KD.blk, List.getElem?_replicate, if_pos hi], h3⟩
theorem mkE_out {n : Nat} (hn : n ≤ big) : ∀ (D : DomK) {T : Tr (Option KB)} {k : Tr (Option KB) → Prop}, mkE n D T k →
    ∃ T', k T' ∧ ∀ H : AHeap, (∀ q ∈ D, H[q.1]? = some q.2.blk) → (∀ b B, b < n → T.get (pth b) = some B → ∃ L, H[b]? = some L ∧ BRel B L) → ∀ b B, b < n → T'.get (pth b) = some B → ∃ L, H[b]? = some L ∧ BRel B L
  | [], T, k, h => ⟨T, h, fun H _ h1 => h1⟩
  | q :: D, T, k, h => by
    obtain ⟨h1, h2⟩ := chk_iff.1 (show chk (Nat.blt q.1 n) (mkR q.2 fun B => setB (some B) (pth q.1) T fun T => mkE n D T k) from h)
    have h1 : q.1 < n := by simpa [Nat.blt_eq] using h1
    obtain ⟨B, hB, h3⟩ := mkR_out h2
    have h4 := (setB_iff (some B) (pth q.1) T (fun T => mkE n D T k)).1 h3
    obtain ⟨T', h5, h6⟩ := mkE_out hn D h4
    refine ⟨T', h5, fun H hD hT => h6 H (fun x hx => hD x (List.mem_cons_of_mem _ hx)) fun b C hb hC => ?_⟩
    by_cases he : b = q.1
    · subst he
      rw [Tr.get_set] at hC
      cases hC
      exact ⟨_, hD q List.mem_cons_self, hB⟩
    · rw [Tr.get_set_ne] at hC
      · exact hT b C hb hC
      · exact fun e => he (big_pth (by omega) (by omega) e)

/-- The entry is carried out: from these blocks at least. -/
def runR (ck : KC) (D0 : DomK) (e : EK) : Prop :=
  chk (Nat.ble e.n big) (mkE e.n D0 (.c none) fun T => ck 5 e.f e.args ⟨e.n, T⟩ fun v K => HT.rec (motive := fun _ => Prop) (fun m t => chk (Nat.beq m e.n1 && eqV v e.v) (chkD e.D1 ⟨m, t⟩ True)) K)
theorem runR_ok {call : Caller} {ck : KC} (hS : CallS call ck) {e : EK} (hn : nodK e.D = true) {D0 : DomK} (h0 : ∀ q ∈ D0, q ∈ e.D) (h : runR ck D0 e) : e.e.Run call := by
  intro H0 hl hD
  have hl : H0.length = e.n := hl
  obtain ⟨h1, h2⟩ := chk_iff.1 h
  have h1 := Nat.le_of_ble_eq_true h1
  obtain ⟨T, h3, h4⟩ := mkE_out h1 D0 h2
  have hR : HRel ⟨e.n, T⟩ H0 := ⟨hl.symm, h1, h4 H0 (fun q hq => hD q.1 _ (memK_get hn q (h0 q hq))) fun b B _ hB => by rw [Tr.get_c] at hB; cases hB⟩
  obtain ⟨v, K, H1, h5, h6, h7⟩ := hS 5 e.f e.args _ H0 _ hR h3
  obtain ⟨m, t⟩ := K
  obtain ⟨h8, h9⟩ := chk_iff.1 (show chk (Nat.beq m e.n1 && eqV v e.v) (chkD e.D1 ⟨m, t⟩ True) from h7)
  simp only [Bool.and_eq_true] at h8
  obtain ⟨h10, _⟩ := chkD_out h6 e.D1 h9
  have hv := eqV_eq h8.2
  subst hv
  refine ⟨H1, h5, ?_, fun b B hb => ?_⟩
  · have : m = H1.length := h6.1
    rw [← this]
    exact Nat.eq_of_beq_eq_true h8.1
  · obtain ⟨d, hd, rfl⟩ := get_memK hb
    exact h10 _ hd
end Go.Mach.J
