/- Single steps of a reckoning, and what a slice of numbers reads as. Laws; no condition. -/
import Derived.Test.YtajjfflbcpkokaaGreatW
namespace Go.Mach

/-- Slots by a list; the others are u's. -/
def tl : List (Nat × Value) → Temps → Temps
  | [], u => u
  | (d, v) :: l, u => tset (tl l u) d v

def KeepAll (T : Temps) : List (Nat × Value) → Prop
  | [] => True
  | (d, v) :: l => T d = v ∧ KeepAll T l

theorem tl_keep {T : Temps} : ∀ {l : List (Nat × Value)}, KeepAll T l → T = tl l T
  | [], _ => rfl
  | (d, v) :: l, h => by
    funext i
    show T i = tset (tl l T) d v i
    unfold tset
    split
    · rename_i he; rw [he]; exact h.1
    · exact congrFun (tl_keep h.2) i

/-- The slots that are read later are enough. -/
theorem forget {T : Temps} {X : Temps → Prop} (l : List (Nat × Value)) (hk : KeepAll T l) (h : ∀ u, X (tl l u)) : X T := by
  rw [tl_keep hk]; exact h T

/-- A slice of numbers reads as a list. -/
structure RI (H : AHeap) (k : IntKind) (a : Option Addr) (c : Nat) (l : List Int) : Prop where
  cap : l.length ≤ c
  at_ : ∀ i, i < l.length → ∃ b o, a = some ⟨b, o, none⟩ ∧ cellAt H ⟨b, o + i, none⟩ = some (.int k (l.getD i 0))
  len : (l.length : Int) ≤ 9223372036854775807

section
variable {P : Program} {fl : Nat} {t : Temps} {H H1 : AHeap} {Q : AExit → Temps → AHeap → Prop} {ops : Array Oper} {g : List Bool} {l : List Oper} {o : Oper} {K : Temps → AHeap → Prop}

theorem W_reg {id : Nat} {draw : Bool} (g : List Bool) (cl : List (Nat × Nat)) (hd : (draw = true ∧ drawnOk ops g cl = true) ∨ (draw = false ∧ g = ops.toList.map fun _ => true))
    (h : WDrawn P fl ops g ops.toList t H fun t' H' => cl.all (clashOk ops t') = true ∧ Q .normal t' H') : W P fl (.region id ops draw) t H Q := by
  rcases hd with ⟨rfl, hok⟩ | ⟨rfl, rfl⟩
  · exact W_drawn g cl hok h
  · refine W_region ?_
    have : ∀ (l : List Oper) (t : Temps) (H : AHeap), WDrawn P fl ops (l.map fun _ => true) l t H (fun t' H' => cl.all (clashOk ops t') = true ∧ Q .normal t' H') → WOps P fl ops l t H (Q .normal) := by
      intro l
      induction l with
      | nil => intro t H h; exact h.2
      | cons o l ih =>
        intro t H h
        have h : WOp P fl fl ops o t H fun t' H' => WDrawn P fl ops (l.map fun _ => true) l t' H' (fun t' H' => cl.all (clashOk ops t') = true ∧ Q .normal t' H') := h
        show WOp P fl fl ops o t H fun t' H' => WOps P fl ops l t' H' (Q .normal)
        unfold WOp at h ⊢
        split at h
        · rename_i hw
          rw [if_pos hw]
          split at h
          · exact ih _ _ h
          · exact ih _ _ h
          · exact h.mono fun v H' h => ih _ _ h
          · exact h.elim
        · rename_i hw
          rw [if_neg hw]; exact ih _ _ h
    exact this _ _ _ h

theorem D_nil (h : K t H) : WDrawn P fl ops g [] t H K := by cases g <;> exact h

theorem D_op {v : Value} (hw : wantedA ops t o = true) (hp : prim P fl o.op (eval t) H = some (.value v, H1)) (h : WDrawn P fl ops g.tail l (tput t o.dst v) H1 K) : WDrawn P fl ops g (o :: l) t H K := by
  show WOp P fl _ ops o t H _
  unfold WOp
  rw [if_pos hw]
  simp only [hp]
  exact h

theorem D_pure {v : Value} (hw : wantedA ops t o = true) (hp : prim P fl o.op (eval t) H = some (.value v, H)) (h : WDrawn P fl ops g.tail l (tput t o.dst v) H K) : WDrawn P fl ops g (o :: l) t H K := D_op hw hp h

theorem D_opw {v v' : Value} (hw : wantedA ops t o = true) (hp : prim P fl o.op (eval t) H = some (.value v', H)) (hv : v' = v) (h : WDrawn P fl ops g.tail l (tput t o.dst v) H K) : WDrawn P fl ops g (o :: l) t H K :=
  D_op hw hp (by rw [hv]; exact h)

theorem D_do (hw : wantedA ops t o = true) (hp : prim P fl o.op (eval t) H = some (.skip, H1)) (h : WDrawn P fl ops g.tail l (tput t o.dst undef) H1 K) : WDrawn P fl ops g (o :: l) t H K := by
  show WOp P fl _ ops o t H _
  unfold WOp
  rw [if_pos hw]
  simp only [hp]
  exact h

theorem D_not (hw : wantedA ops t o = false) (h : WDrawn P fl ops g.tail l (tput t o.dst undef) H K) : WDrawn P fl ops g (o :: l) t H K := by
  show WOp P fl _ ops o t H _
  unfold WOp
  rw [hw]
  exact h

theorem D_call {f : FuncId} {args : Array Value} (b : Bool) (hg : g.headD false = b) (hw : wantedA ops t o = true) (hp : prim P fl o.op (eval t) H = some (.enter f args, H))
    (h : WCall P (if b then fl else H.length) f args H fun v H2 => WDrawn P fl ops g.tail l (tput t o.dst v) H2 K) : WDrawn P fl ops g (o :: l) t H K := by
  subst hg
  show WOp P fl _ ops o t H _
  unfold WOp
  rw [if_pos hw]
  simp only [hp]
  exact h

theorem D_mono {K' : Temps → AHeap → Prop} (hk : ∀ t H, K t H → K' t H) : ∀ {g : List Bool} {l : List Oper} {t : Temps} {H : AHeap}, WDrawn P fl ops g l t H K → WDrawn P fl ops g l t H K' := by
  intro g l
  induction l generalizing g with
  | nil => intro t H h; cases g <;> exact hk _ _ h
  | cons o l ih =>
    intro t H h
    have h : WOp P fl (if g.headD false then fl else H.length) ops o t H fun t' H' => WDrawn P fl ops g.tail l t' H' K := h
    show WOp P fl (if g.headD false then fl else H.length) ops o t H fun t' H' => WDrawn P fl ops g.tail l t' H' K'
    unfold WOp at h ⊢
    split at h
    · rename_i hw
      rw [if_pos hw]
      split at h
      · exact ih h
      · exact ih h
      · exact h.mono fun v H' h => ih h
      · exact h.elim
    · rename_i hw
      rw [if_neg hw]; exact ih h

theorem W_forget {c : Code} {T : Temps} (l : List (Nat × Value)) (hk : KeepAll T l) (h : ∀ u, W P fl c (tl l u) H Q) : W P fl c T H Q := by
  rw [tl_keep hk]; exact h T

theorem W_cut {id : Nat} {draw : Bool} (g : List Bool) (cl : List (Nat × Nat)) (hd : (draw = true ∧ drawnOk ops g cl = true) ∨ (draw = false ∧ g = ops.toList.map fun _ => true)) (l : List (Nat × Value)) (H2 : AHeap)
    (h1 : WDrawn P fl ops g ops.toList t H fun t' H' => cl.all (clashOk ops t') = true ∧ KeepAll t' l ∧ H' = H2) (h2 : ∀ t', KeepAll t' l → Q .normal t' H2) : W P fl (.region id ops draw) t H Q :=
  W_reg g cl hd (D_mono (fun t' H' ⟨a, b, c⟩ => ⟨a, by rw [c]; exact h2 t' b⟩) h1)

theorem W_true {c : Operand} {x y : Code} (hc : eval t c = .bool true) (h : W P fl x t H Q) : W P fl (.cond c x y) t H Q := W_cond hc (fun _ => h) (fun h => by cases h)
theorem W_false {c : Operand} {x y : Code} (hc : eval t c = .bool false) (h : W P fl y t H Q) : W P fl (.cond c x y) t H Q := W_cond hc (fun h => by cases h) (fun _ => h)

/-! ### Memory -/

theorem prim_load {ty : TypeId} {a : Operand} {p : Addr} {v : Value} (ha : eval t a = .pointer (some p)) (hl : loadA P ty H p = some v) : prim P fl (.load ty a) (eval t) H = some (.value v, H) := by
  simp only [prim, ha, hl, Option.map_some]
theorem prim_index {ty e es eb : TypeId} {x ix : Operand} {b o n c : Nat} {k : IntKind} {i : Int} (hty : aTy P ty = .slice e es eb) (hx : eval t x = .slice (some ⟨b, o, none⟩) n c) (hi : eval t ix = .int k i)
    (h0 : 0 ≤ i) (hn : i < n) : prim P fl (.indexAddr ty x ix) (eval t) H = some (.value (.pointer (some ⟨b, o + i.toNat * es, none⟩)), H) := by
  have : indexAddrA P ty (.slice (some ⟨b, o, none⟩) n c) (.int k i) = some (.pointer (some ⟨b, o + i.toNat * es, none⟩)) := by
    unfold indexAddrA
    rw [hty]
    simp only [h0, hn, and_self, if_true]
    unfold Addr.add
    split
    · rename_i h; simp [h]
    · rfl
  simp only [prim, hx, hi, this, Option.map_some]
theorem prim_indexRI {ty e eb : TypeId} {x ix : Operand} {a : Option Addr} {c : Nat} {k ki : IntKind} {i : Int} {l : List Int} (hs : RI H k a c l) (hty : aTy P ty = .slice e 1 eb) (hty' : aTy P e = .one)
    (hx : eval t x = .slice a l.length c) (hi : eval t ix = .int ki i) (h0 : 0 ≤ i) (hn : i < l.length) :
    ∃ p, prim P fl (.indexAddr ty x ix) (eval t) H = some (.value (.pointer (some p)), H) ∧ loadA P e H p = some (.int k (l.getD i.toNat 0)) := by
  obtain ⟨b, o, rfl, hc⟩ := hs.at_ i.toNat (by omega)
  refine ⟨⟨b, o + i.toNat * 1, none⟩, prim_index hty hx hi h0 hn, ?_⟩
  unfold loadA
  rw [hty', Nat.mul_one]
  exact hc

end

theorem wrap_i64 (x : Int) (h1 : -9223372036854775808 ≤ x) (h2 : x ≤ 9223372036854775807) : IntKind.i64.wrap x = x := by
  simp only [IntKind.wrap, IntKind.bits, IntKind.signed]
  simp
  omega
theorem wrap_i32 (x : Int) (h1 : -2147483648 ≤ x) (h2 : x ≤ 2147483647) : IntKind.i32.wrap x = x := by
  simp only [IntKind.wrap, IntKind.bits, IntKind.signed]
  simp
  omega
theorem wrap_i8 (x : Int) (h1 : -128 ≤ x) (h2 : x ≤ 127) : IntKind.i8.wrap x = x := by
  simp only [IntKind.wrap, IntKind.bits, IntKind.signed]
  simp
  omega
theorem wrap_u8 (x : Int) (h1 : 0 ≤ x) (h2 : x ≤ 255) : IntKind.u8.wrap x = x := by
  simp only [IntKind.wrap, IntKind.bits, IntKind.signed]
  simp
  omega
theorem wrap_u64 (x : Int) (h1 : 0 ≤ x) (h2 : x ≤ 18446744073709551615) : IntKind.u64.wrap x = x := by
  simp only [IntKind.wrap, IntKind.bits, IntKind.signed]
  simp
  omega
theorem wrap_u32 (x : Int) (h1 : 0 ≤ x) (h2 : x ≤ 4294967295) : IntKind.u32.wrap x = x := by
  simp only [IntKind.wrap, IntKind.bits, IntKind.signed]
  simp
  omega

theorem wv {k : IntKind} {x : Int} (h : k.wrap x = x) : Value.int k (k.wrap x) = .int k x := by rw [h]

theorem iv {k : IntKind} {a b : Int} (h : a = b) : Value.int k a = .int k b := by rw [h]

theorem blk?_app {H K : AHeap} {b : Nat} {B : Blk} (h : blk? H b = some B) : blk? (H ++ K) b = some B := by
  unfold blk? at h ⊢
  cases hb : H[b]? with
  | none => simp [hb] at h
  | some C => rw [List.getElem?_append_left (List.getElem?_eq_some_iff.1 hb).1, hb]; rw [hb] at h; exact h

theorem cellAt_app {H K : AHeap} {p : Addr} {v : Value} (h : cellAt H p = some v) : cellAt (H ++ K) p = some v := by
  unfold cellAt at h ⊢
  cases hb : blk? H p.block with
  | none => simp [hb] at h
  | some B => rw [blk?_app hb]; rw [hb] at h; exact h

theorem RI.app {H : AHeap} {k : IntKind} {a : Option Addr} {c : Nat} {l : List Int} (h : RI H k a c l) (K : AHeap) : RI (H ++ K) k a c l :=
  ⟨h.cap, fun i hi => by obtain ⟨b, o, h1, h2⟩ := h.at_ i hi; exact ⟨b, o, h1, cellAt_app h2⟩, h.len⟩

end Go.Mach
