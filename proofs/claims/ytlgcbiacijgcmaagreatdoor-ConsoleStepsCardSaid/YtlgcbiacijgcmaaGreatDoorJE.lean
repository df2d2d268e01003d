/- CALLS CARRIED OUT BY THE KERNEL from blocks that are written down to blocks that are written down. No condition. -/
import Derived.Test.YtlgcbiacijgcmaaGreatDoorJ9
import Derived.Test.YtlgcbiacijgcmaaGreatDoorReloc
namespace Go.Mach.J
open Go Go.Mach

/-! ### Blocks written down -/

inductive KD
  | l (cells : List Value) (es : Nat) (ex : Bool)
  | c (v : Value) (len es : Nat) (ex : Bool)
def KD.blk : KD → Blk
  | .l cs es ex => ⟨cs, es, ex, true⟩
  | .c v n es ex => ⟨List.replicate n v, es, ex, true⟩
abbrev DomK := List (Nat × KD)
def dmK (D : DomK) : Dom := D.map fun p => (p.1, p.2.blk)

/-! ### Values held against each other -/

def eqI : Int → Int → Bool
  | .ofNat a, .ofNat b => Nat.beq a b
  | .negSucc a, .negSucc b => Nat.beq a b
  | _, _ => false
def eqK : IntKind → IntKind → Bool
  | .i8, .i8 | .i16, .i16 | .i32, .i32 | .i64, .i64 | .u8, .u8 | .u16, .u16 | .u32, .u32 | .u64, .u64 => true
  | _, _ => false
def eqD : Option Addr → Option Addr → Bool
  | none, none => true
  | some ⟨b, o, none⟩, some ⟨b', o', none⟩ => Nat.beq b b' && Nat.beq o o'
  | _, _ => false
def eqY : List UInt8 → List UInt8 → Bool
  | [], [] => true
  | x :: l, y :: r => Nat.beq x.toNat y.toNat && eqY l r
  | _, _ => false
def eqB : Bool → Bool → Bool
  | true, true | false, false => true
  | _, _ => false
def eqC : Value → Value → Bool
  | .bool a, .bool b => eqB a b
  | .int i n, .int j m => eqK i j && eqI n m
  | .pointer a, .pointer b => eqD a b
  | .slice a n c, .slice b m d => eqD a b && (Nat.beq n m && Nat.beq c d)
  | .string a, .string b => eqY a.data.toList b.data.toList
  | _, _ => false
def eqCs : List Value → List Value → Bool
  | [], [] => true
  | x :: l, y :: r => eqC x y && eqCs l r
  | _, _ => false
def eqA : Value → Value → Bool
  | .agg a, .agg b => eqCs a.toList b.toList
  | a, b => eqC a b
def eqAs : List Value → List Value → Bool
  | [], [] => true
  | x :: l, y :: r => eqA x y && eqAs l r
  | _, _ => false
def eqV : Value → Value → Bool
  | .tuple a, .tuple b => eqAs a.toList b.toList
  | a, b => eqA a b

theorem eqI_eq : ∀ {a b : Int}, eqI a b = true → a = b
  | .ofNat a, .ofNat b, h => by rw [Nat.eq_of_beq_eq_true h]
  | .negSucc a, .negSucc b, h => by rw [Nat.eq_of_beq_eq_true h]
theorem eqK_eq {i j : IntKind} (h : eqK i j = true) : i = j := by
  cases i <;> cases j <;> first | rfl | cases h
theorem eqD_eq : ∀ {a b : Option Addr}, eqD a b = true → a = b
  | none, none, _ => rfl
  | some ⟨b, o, none⟩, some ⟨b', o', none⟩, h => by
    simp only [eqD, Bool.and_eq_true] at h
    rw [Nat.eq_of_beq_eq_true h.1, Nat.eq_of_beq_eq_true h.2]
theorem eqY_eq : ∀ {a b : List UInt8}, eqY a b = true → a = b
  | [], [], _ => rfl
  | x :: l, y :: r, h => by
    simp only [eqY, Bool.and_eq_true] at h
    rw [UInt8.toNat_inj.1 (Nat.eq_of_beq_eq_true h.1), eqY_eq h.2]
theorem eqB_eq : ∀ {a b : Bool}, eqB a b = true → a = b
  | true, true, _ => rfl
  | false, false, _ => rfl
theorem eqC_eq {a b : Value} (h : eqC a b = true) : a = b := by
  unfold eqC at h
  split at h
  · rw [eqB_eq h]
  · simp only [Bool.and_eq_true] at h; rw [eqK_eq h.1, eqI_eq h.2]
  · rw [eqD_eq h]
  · simp only [Bool.and_eq_true] at h; rw [eqD_eq h.1, Nat.eq_of_beq_eq_true h.2.1, Nat.eq_of_beq_eq_true h.2.2]
  · rename_i a b
    obtain ⟨⟨a⟩⟩ := a
    obtain ⟨⟨b⟩⟩ := b
    rw [eqY_eq (a := a) (b := b) h]
  · cases h
theorem eqCs_eq : ∀ {a b : List Value}, eqCs a b = true → a = b
  | [], [], _ => rfl
  | x :: l, y :: r, h => by
    simp only [eqCs, Bool.and_eq_true] at h
    rw [eqC_eq h.1, eqCs_eq h.2]
theorem eqA_eq {a b : Value} (h : eqA a b = true) : a = b := by
  unfold eqA at h
  split at h
  · rename_i a b
    obtain ⟨a⟩ := a
    obtain ⟨b⟩ := b
    rw [eqCs_eq (a := a) (b := b) h]
  · exact eqC_eq h
theorem eqAs_eq : ∀ {a b : List Value}, eqAs a b = true → a = b
  | [], [], _ => rfl
  | x :: l, y :: r, h => by
    simp only [eqAs, Bool.and_eq_true] at h
    rw [eqA_eq h.1, eqAs_eq h.2]
theorem eqV_eq {a b : Value} (h : eqV a b = true) : a = b := by
  unfold eqV at h
  split at h
  · rename_i a b
    obtain ⟨a⟩ := a
    obtain ⟨b⟩ := b
    rw [eqAs_eq (a := a) (b := b) h]
  · exact eqA_eq h

/-! ### Blocks held against what is written down -/

def rdC (B : KB) (l : List Value) : Nat → Prop → Prop :=
  List.rec (motive := fun _ => Nat → Prop → Prop) (fun _ p => p) (fun v _ ih off p => forceN off fun off => cellK B off fun u => chk (eqC u v) (ih (Nat.succ off) p)) l
def rdN (B : KB) (v : Value) (n : Nat) (p : Prop) : Prop := Nat.rec (motive := fun _ => Prop) p (fun m ih => cellK B m fun u => chk (eqC u v) ih) n
def rdT (B : KB) (v : Value) (n : Nat) (p : Prop) : Prop :=
  KB.rec (motive := fun _ => Prop) (fun t len es ex => Tr.rec (motive := fun _ => Prop) (fun u => chk (eqC u v) p) (fun _ _ _ _ _ => rdN ⟨t, len, es, ex⟩ v n p) t) B
def hdB (B : KB) (n es : Nat) (ex : Bool) (p : Prop) : Prop := KB.rec (motive := fun _ => Prop) (fun _ len es' ex' => chk (Nat.beq len n && (Nat.beq es' es && eqB ex' ex)) p) B
def chkB (B : KB) (d : KD) (p : Prop) : Prop :=
  KD.rec (motive := fun _ => Prop) (fun cs es ex => hdB B cs.length es ex (rdC B cs 0 p)) (fun v n es ex => hdB B n es ex (rdT B v n p)) d
def chkD (D : DomK) : HT → Prop → Prop :=
  List.rec (motive := fun _ => HT → Prop → Prop) (fun _ p => p) (fun q _ ih H p => blkK H q.1 fun B => chkB B q.2 (ih H p)) D

theorem cellK_out {B : KB} {off : Nat} {k : Value → Prop} (h : cellK B off k) : off < B.len ∧ k (B.t.get (pth off)) := by
  obtain ⟨t, len, es, ex⟩ := B
  obtain ⟨h1, h2⟩ := chk_iff.1 (show chk (Nat.blt off len) (getV (pth off) t k) from h)
  exact ⟨by simpa [Nat.blt_eq] using h1, (getV_iff (pth off) t k).1 h2⟩
theorem rdC_out {B : KB} : ∀ (l : List Value) (off : Nat) {p : Prop}, rdC B l off p → (∀ i v, l[i]? = some v → B.t.get (pth (off + i)) = v) ∧ p
  | [], _, _, h => ⟨fun i v hv => by simp at hv, h⟩
  | v :: l, off, p, h => by
    have h1 := (forceN_iff (k := fun off => cellK B off fun u => chk (eqC u v) (rdC B l (Nat.succ off) p))).1 h
    obtain ⟨_, h2⟩ := cellK_out h1
    obtain ⟨h3, h4⟩ := chk_iff.1 h2
    obtain ⟨h5, h6⟩ := rdC_out l (off + 1) h4
    refine ⟨fun i u hu => ?_, h6⟩
    cases i with
    | zero => simp at hu; subst hu; exact eqC_eq h3
    | succ i =>
      rw [List.getElem?_cons_succ] at hu
      have := h5 i u hu
      rw [show off + 1 + i = off + (i + 1) by omega] at this
      exact this
theorem rdN_out {B : KB} {v : Value} : ∀ (n : Nat) {p : Prop}, rdN B v n p → (∀ i, i < n → B.t.get (pth i) = v) ∧ p
  | 0, _, h => ⟨fun i hi => absurd hi (Nat.not_lt_zero i), h⟩
  | n + 1, p, h => by
    obtain ⟨_, h2⟩ := cellK_out (B := B) (off := n) (k := fun u => chk (eqC u v) (rdN B v n p)) h
    obtain ⟨h3, h4⟩ := chk_iff.1 h2
    obtain ⟨h5, h6⟩ := rdN_out n h4
    refine ⟨fun i hi => ?_, h6⟩
    by_cases he : i = n
    · subst he; exact eqC_eq h3
    · exact h5 i (by omega)
theorem rdT_out {B : KB} {v : Value} {n : Nat} {p : Prop} (h : rdT B v n p) : (∀ i, i < n → B.t.get (pth i) = v) ∧ p := by
  obtain ⟨t, len, es, ex⟩ := B
  cases t with
  | c u =>
    obtain ⟨h1, h2⟩ := chk_iff.1 (show chk (eqC u v) p from h)
    refine ⟨fun i _ => ?_, h2⟩
    rw [Tr.get_c]
    exact eqC_eq h1
  | n l x r => exact rdN_out n (show rdN ⟨.n l x r, len, es, ex⟩ v n p from h)
theorem hdB_out {B : KB} {n es : Nat} {ex : Bool} {p : Prop} (h : hdB B n es ex p) : B.len = n ∧ B.es = es ∧ B.exact = ex ∧ p := by
  obtain ⟨t, len, es', ex'⟩ := B
  obtain ⟨h1, h2⟩ := chk_iff.1 (show chk (Nat.beq len n && (Nat.beq es' es && eqB ex' ex)) p from h)
  simp only [Bool.and_eq_true] at h1
  exact ⟨Nat.eq_of_beq_eq_true h1.1, Nat.eq_of_beq_eq_true h1.2.1, eqB_eq h1.2.2, h2⟩
theorem blk_ext {L M : Blk} (h1 : L.cells = M.cells) (h2 : L.es = M.es) (h3 : L.exact = M.exact) (h4 : L.alive = M.alive) : L = M := by
  cases L; cases M; simp only at h1 h2 h3 h4; rw [h1, h2, h3, h4]
theorem chkB_out {B : KB} {L : Blk} {d : KD} {p : Prop} (hB : BRel B L) (h : chkB B d p) : L = d.blk ∧ p := by
  obtain ⟨e1, e2, ha, hl, _, hc⟩ := hB
  cases d with
  | l cs es ex =>
    obtain ⟨k1, k2, k3, k4⟩ := hdB_out (show hdB B cs.length es ex (rdC B cs 0 p) from h)
    obtain ⟨k5, k6⟩ := rdC_out cs 0 k4
    refine ⟨blk_ext ?_ (e1.symm.trans k2) (e2.symm.trans k3) ha, k6⟩
    show L.cells = cs
    apply List.ext_getElem?
    intro i
    by_cases hi : i < B.len
    · rw [(hc i hi).1]
      have hi2 : i < cs.length := by rw [← k1]; exact hi
      rw [List.getElem?_eq_getElem hi2]
      have := k5 i _ (List.getElem?_eq_getElem hi2)
      rw [Nat.zero_add] at this
      rw [this]
    · rw [List.getElem?_eq_none (by omega), List.getElem?_eq_none (by omega)]
  | c v n es ex =>
    obtain ⟨k1, k2, k3, k4⟩ := hdB_out (show hdB B n es ex (rdT B v n p) from h)
    obtain ⟨k5, k6⟩ := rdT_out k4
    refine ⟨blk_ext ?_ (e1.symm.trans k2) (e2.symm.trans k3) ha, k6⟩
    show L.cells = List.replicate n v
    apply List.ext_getElem?
    intro i
    by_cases hi : i < B.len
    · rw [(hc i hi).1, k5 i (by omega), List.getElem?_replicate, if_pos (by omega)]
    · rw [List.getElem?_eq_none (by omega), List.getElem?_eq_none (by simp; omega)]
theorem chkD_out {K : HT} {H : AHeap} (hH : HRel K H) : ∀ (D : DomK) {p : Prop}, chkD D K p → (∀ q ∈ D, H[q.1]? = some q.2.blk) ∧ p
  | [], _, h => ⟨fun q hq => by simp at hq, h⟩
  | q :: D, p, h => by
    obtain ⟨B, L, _, _, hL, hB, h1⟩ := blk_out (T := K) (b := q.1) (k := fun B => chkB B q.2 (chkD D K p)) hH h
    obtain ⟨h2, h3⟩ := chkB_out hB h1
    obtain ⟨h4, h5⟩ := chkD_out hH D h3
    refine ⟨fun x hx => ?_, h5⟩
    rcases List.mem_cons.1 hx with e | hx
    · subst e; rw [hL, h2]
    · exact h4 x hx

/-! ### Blocks made of what is written down -/

def mkB (d : KD) (k : KB → Prop) : Prop :=
  KD.rec (motive := fun _ => Prop) (fun cs es ex => forceL cs fun cs => newK cs es ex k) (fun v n es ex => chk (Nat.blt n big) (onOne v (k ⟨.c v, n, es, ex⟩))) d
def mkD (n : Nat) (D : DomK) : Tr (Option KB) → (Tr (Option KB) → Prop) → Prop :=
  List.rec (motive := fun _ => Tr (Option KB) → (Tr (Option KB) → Prop) → Prop) (fun T k => k T) (fun q _ ih T k => chk (Nat.blt q.1 n) (mkB q.2 fun B => setB (some B) (pth q.1) T fun T => ih T k)) D

theorem mkB_out {d : KD} {k : KB → Prop} (h : mkB d k) : ∃ B, BRel B d.blk ∧ k B := by
  cases d with
  | l cs es ex =>
    obtain ⟨B, h1, _, h2⟩ := new_out (forceL_out (l := cs) (k := fun cs => newK cs es ex k) h)
    exact ⟨B, h1, h2⟩
  | c v n es ex =>
    obtain ⟨h1, h2⟩ := chk_iff.1 (show chk (Nat.blt n big) (onOne v (k ⟨.c v, n, es, ex⟩)) from h)
    obtain ⟨h3, _, h4⟩ := onOne_out h2
    refine ⟨_, ⟨rfl, rfl, rfl, by simp [KD.blk], ?_, fun i hi => ?_⟩, h4⟩
    · have : n < big := by simpa [Nat.blt_eq] using h1
      exact Nat.le_of_lt this
    · simp only at hi
      rw [Tr.get_c]
      exact ⟨by simp only [KD.blk, List.getElem?_replicate, if_pos hi], h3⟩
theorem mkD_out {n : Nat} (hn : n ≤ big) : ∀ (D : DomK) {T : Tr (Option KB)} {k : Tr (Option KB) → Prop}, mkD n D T k →
    ∃ T', k T' ∧ ∀ H : AHeap, (∀ q ∈ D, H[q.1]? = some q.2.blk) → (∀ b B, b < n → T.get (pth b) = some B → ∃ L, H[b]? = some L ∧ BRel B L) → ∀ b B, b < n → T'.get (pth b) = some B → ∃ L, H[b]? = some L ∧ BRel B L
  | [], T, k, h => ⟨T, h, fun H _ h1 => h1⟩
  | q :: D, T, k, h => by
    obtain ⟨h1, h2⟩ := chk_iff.1 (show chk (Nat.blt q.1 n) (mkB q.2 fun B => setB (some B) (pth q.1) T fun T => mkD n D T k) from h)
    have h1 : q.1 < n := by simpa [Nat.blt_eq] using h1
    obtain ⟨B, hB, h3⟩ := mkB_out h2
    have h4 := (setB_iff (some B) (pth q.1) T (fun T => mkD n D T k)).1 h3
    obtain ⟨T', h5, h6⟩ := mkD_out hn D h4
    refine ⟨T', h5, fun H hD hT => h6 H (fun x hx => hD x (List.mem_cons_of_mem _ hx)) fun b C hb hC => ?_⟩
    by_cases he : b = q.1
    · subst he
      rw [Tr.get_set] at hC
      cases hC
      exact ⟨_, hD q List.mem_cons_self, hB⟩
    · rw [Tr.get_set_ne] at hC
      · exact hT b C hb hC
      · exact fun e => he (big_pth (by omega) (by omega) e)

/-! ### Entries -/

structure EK where
  f : FuncId
  args : List Value
  n : Nat
  D : DomK
  v : Value
  n1 : Nat
  D1 : DomK
def EK.e (x : EK) : Entry := ⟨x.f, x.args, x.n, dmK x.D, x.v, x.n1, dmK x.D1⟩
def memK (D : DomK) (b : Nat) : Bool := D.any fun p => Nat.beq p.1 b
def nodK : DomK → Bool
  | [] => true
  | p :: r => !(memK r p.1) && nodK r
def KD.len : KD → Nat
  | .l cs _ _ => cs.length
  | .c _ n _ _ => n
def KD.es : KD → Nat
  | .l _ es _ => es
  | .c _ _ es _ => es
def KD.ex : KD → Bool
  | .l _ _ ex => ex
  | .c _ _ _ ex => ex
def KD.cl (d : Nat → Bool) : KD → Bool
  | .l cs _ _ => cs.all (clC d)
  | .c v _ _ _ => clC d v
theorem KD.blk_len (d : KD) : d.blk.cells.length = d.len ∧ d.blk.es = d.es ∧ d.blk.exact = d.ex := by cases d <;> simp [KD.blk, KD.len, KD.es, KD.ex]
theorem KD.blk_cl {d : KD} {q : Nat → Bool} (h : d.cl q = true) : d.blk.cells.all (clC q) = true := by
  cases d with
  | l cs es ex => exact h
  | c v n es ex =>
    simp only [KD.blk, List.all_eq_true]
    intro x hx
    rw [List.eq_of_mem_replicate hx]
    exact h

/-- It is told well. -/
def wfK (e : EK) : Bool :=
  (Nat.ble 5 e.n && Nat.ble e.n e.n1 && nodK e.D && nodK e.D1 && e.args.all (clA (memK e.D)) && clV (memK e.D1) e.v) &&
  (e.D.all fun p => Nat.ble 5 p.1 && Nat.blt p.1 e.n && p.2.cl (memK e.D)) &&
  (e.D1.all fun p => Nat.ble 5 p.1 && Nat.blt p.1 e.n1 && p.2.cl (memK e.D1) &&
    (Nat.ble e.n p.1 || e.D.any fun q => Nat.beq q.1 p.1 && (Nat.beq q.2.len p.2.len && (eqB q.2.ex p.2.ex && Nat.beq q.2.es p.2.es))))

theorem memK_has (D : DomK) : (dmK D).has = memK D := by
  funext b
  unfold Dom.has dmK memK
  rw [List.any_map]
  rfl
theorem get_memK {D : DomK} {b : Nat} {B : Blk} (h : (dmK D).get b = some B) : ∃ d, (b, d) ∈ D ∧ B = d.blk := by
  have := Dom.get_mem h
  unfold dmK at this
  obtain ⟨p, hp, e⟩ := List.mem_map.1 this
  cases e
  exact ⟨p.2, hp, rfl⟩
theorem memK_get : ∀ {D : DomK}, nodK D = true → ∀ p ∈ D, (dmK D).get p.1 = some p.2.blk
  | q :: r, hn, p, hp => by
    simp only [nodK, Bool.and_eq_true, Bool.not_eq_true'] at hn
    show Dom.get ((q.1, q.2.blk) :: dmK r) p.1 = _
    rcases List.mem_cons.1 hp with e | hp
    · subst e
      unfold Dom.get
      simp only [show Nat.beq p.1 p.1 = true from Nat.beq_refl _]
    · unfold Dom.get
      have : Nat.beq q.1 p.1 = false := by
        cases hb : Nat.beq q.1 p.1 with
        | false => rfl
        | true =>
          have e := Nat.eq_of_beq_eq_true hb
          have : memK r q.1 = true := by
            unfold memK
            rw [List.any_eq_true]
            exact ⟨p, hp, by rw [e]; exact Nat.beq_refl _⟩
          rw [this] at hn
          cases hn.1
      simp only [this]
      exact memK_get hn.2 p hp
theorem wfK_ok {e : EK} (h : wfK e = true) : e.e.Wf := by
  simp only [wfK, Bool.and_eq_true, List.all_eq_true] at h
  obtain ⟨⟨⟨⟨⟨⟨⟨a1, a2⟩, a3⟩, a4⟩, a5⟩, a6⟩, a7⟩, a8⟩ := h
  refine ⟨Nat.le_of_ble_eq_true a1, ?_, ?_, Nat.le_of_ble_eq_true a2, fun b B hb => ?_, fun b B hb => ?_⟩
  · show e.args.all (clA (dmK e.D).has) = true
    rw [memK_has, List.all_eq_true]
    exact a5
  · show clV (dmK e.D1).has e.v = true
    rw [memK_has]
    exact a6
  · obtain ⟨d, hd, rfl⟩ := get_memK hb
    obtain ⟨⟨k1, k2⟩, k3⟩ := a7 _ hd
    have k2 : b < e.n := by simpa [Nat.blt_eq] using k2
    refine ⟨Nat.le_of_ble_eq_true k1, k2, by cases d <;> rfl, ?_⟩
    show d.blk.cells.all (clC (dmK e.D).has) = true
    rw [memK_has]
    exact KD.blk_cl k3
  · obtain ⟨d, hd, rfl⟩ := get_memK hb
    obtain ⟨⟨⟨k1, k2⟩, k3⟩, k4⟩ := a8 _ hd
    have k2 : b < e.n1 := by simpa [Nat.blt_eq] using k2
    refine ⟨Nat.le_of_ble_eq_true k1, k2, by cases d <;> rfl, ?_, fun hlt => ?_⟩
    · show d.blk.cells.all (clC (dmK e.D1).has) = true
      rw [memK_has]
      exact KD.blk_cl k3
    · simp only [Bool.or_eq_true] at k4
      rcases k4 with k4 | k4
      · have := Nat.le_of_ble_eq_true k4
        have hlt : b < e.n := hlt
        have this : e.n ≤ b := this
        omega
      · rw [List.any_eq_true] at k4
        obtain ⟨q, hq, hk⟩ := k4
        simp only [Bool.and_eq_true] at hk
        have e1 := Nat.eq_of_beq_eq_true hk.1
        refine ⟨q.2.blk, ?_, ?_, ?_, ?_⟩
        · have := memK_get a3 q hq
          rw [e1] at this
          exact this
        · rw [(KD.blk_len q.2).1, (KD.blk_len d).1]; exact Nat.eq_of_beq_eq_true hk.2.1
        · rw [(KD.blk_len q.2).2.2, (KD.blk_len d).2.2]; exact eqB_eq hk.2.2.1
        · rw [(KD.blk_len q.2).2.1, (KD.blk_len d).2.1]; exact Nat.eq_of_beq_eq_true hk.2.2.2

/-- The entry is carried out: from these blocks at least. -/
def runK (ck : KC) (D0 : DomK) (e : EK) : Prop :=
  chk (Nat.ble e.n big) (mkD e.n D0 (.c none) fun T => ck 5 e.f e.args ⟨e.n, T⟩ fun v K => HT.rec (motive := fun _ => Prop) (fun m t => chk (Nat.beq m e.n1 && eqV v e.v) (chkD e.D1 ⟨m, t⟩ True)) K)
theorem run_ok {call : Caller} {ck : KC} (hS : CallS call ck) {e : EK} (hn : nodK e.D = true) {D0 : DomK} (h0 : ∀ q ∈ D0, q ∈ e.D) (h : runK ck D0 e) : e.e.Run call := by
  intro H0 hl hD
  have hl : H0.length = e.n := hl
  obtain ⟨h1, h2⟩ := chk_iff.1 h
  have h1 := Nat.le_of_ble_eq_true h1
  obtain ⟨T, h3, h4⟩ := mkD_out h1 D0 h2
  have hR : HRel ⟨e.n, T⟩ H0 := ⟨hl.symm, h1, h4 H0 (fun q hq => hD q.1 _ (memK_get hn q (h0 q hq))) fun b B _ hB => by rw [Tr.get_c] at hB; cases hB⟩
  obtain ⟨v, K, H1, h5, h6, h7⟩ := hS 5 e.f e.args _ H0 _ hR h3
  obtain ⟨m, t⟩ := K
  obtain ⟨h8, h9⟩ := chk_iff.1 (show chk (Nat.beq m e.n1 && eqV v e.v) (chkD e.D1 ⟨m, t⟩ True) from h7)
  simp only [Bool.and_eq_true] at h8
  obtain ⟨h10, _⟩ := chkD_out h6 e.D1 h9
  have hv := eqV_eq h8.2
  subst hv
  refine ⟨H1, h5, ?_, fun b B hb => ?_⟩
  · have : m = H1.length := h6.1
    rw [← this]
    exact Nat.eq_of_beq_eq_true h8.1
  · obtain ⟨d, hd, rfl⟩ := get_memK hb
    exact h10 _ hd
end Go.Mach.J
