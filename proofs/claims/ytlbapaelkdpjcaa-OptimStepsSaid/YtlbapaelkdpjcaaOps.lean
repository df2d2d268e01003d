/- Each operation of the machine is carried out by the model: the operations that leave the heap alone. No condition. -/
import Derived.Test.YtlbapaelkdpjcaaPrim
namespace Go.Mach

def NRel (ρ : Ren) : ANext → Next → Prop
  | .value v, .value v' => VRel ρ v v'
  | .skip, .skip => True
  | .enter f args, .enter f' args' => f = f' ∧ LRel ρ args.toList args'.toList
  | _, _ => False

/-! ### Sums and tests -/

theorem run_eqGuard_int {P : Program} (op : BinOp) (t : TypeId) (x y : Operand) (k k' : IntKind) (a b : Int) (w : World) : (eqGuard op t x y (.int k a) (.int k' b)).run P w = .ok () w := by
  unfold eqGuard
  cases op <;> simp
theorem run_eqGuard_bool {P : Program} (op : BinOp) (t : TypeId) (x y : Operand) (a b : Bool) (w : World) : (eqGuard op t x y (.bool a) (.bool b)).run P w = .ok () w := by
  unfold eqGuard
  cases op <;> simp
theorem run_eqGuard_string {P : Program} (op : BinOp) (t : TypeId) (x y : Operand) (a b : ByteArray) (w : World) : (eqGuard op t x y (.string a) (.string b)).run P w = .ok () w := by
  unfold eqGuard
  cases op <;> simp

theorem run_eql_of {P : Program} {t : TypeId} {x y : Value} {b : Bool} {w : World} (h : ∀ n, (Op.equalIn (n + 1) t x y).run P w = .ok b w) :
    ((do pure (Value.bool (← Op.equal t x y))) : Sem Value).run P w = .ok (.bool b) w ∧ ((do pure (Value.bool (!(← Op.equal t x y)))) : Sem Value).run P w = .ok (.bool (!b)) w := by
  have : (Op.equal t x y).run P w = .ok b w := h 9999
  constructor <;> simp [this]

theorem aBin_sound {P : Program} {op : BinOp} {t : TypeId} {ox oy : Operand} {x y v : Value} {ρ : Ren} {x' y' : Value} (hx : VRel ρ x x') (hy : VRel ρ y y') (h : aBin op x y = some v)
    (ht : (∃ k a k' b, x = .int k a ∧ y = .int k' b) ∨ (∃ a b, x = .string a ∧ y = .string b) ∨ ((∃ a b, x = .bool a ∧ y = .bool b) ∧ P.underlying t = some .bool)) (w : World) :
    (do eqGuard op t ox oy x' y'; binOp op t x' y').run P w = .ok v w ∧ VRel ρ v v := by
  rcases ht with ⟨k, a, k', b, rfl, rfl⟩ | ⟨a, b, rfl, rfl⟩ | ⟨⟨a, b, rfl, rfl⟩, hu⟩
  · cases hx; cases hy
    rw [Sem.run_bind, run_eqGuard_int, Result.andThen_ok]
    cases op <;> simp only [aBin] at h <;> (repeat' split at h) <;> (try cases h) <;>
      first
        | (refine ⟨?_, VRel.int _ _⟩; simp_all [binOp, Op.intArith, Op.intDiv, Op.intBits]; done)
        | (refine ⟨?_, VRel.bool _⟩; simp_all [binOp, Op.intCmp]; done)
        | (rename_i hb; refine ⟨?_, VRel.int _ _⟩; simp only [binOp, Op.shift, if_neg hb, Sem.run_pure]; done)
  · cases hx; cases hy
    rw [Sem.run_bind, run_eqGuard_string, Result.andThen_ok]
    cases op <;> simp only [aBin] at h <;> (repeat' split at h) <;> (try cases h) <;>
      first
        | (refine ⟨?_, VRel.bool _⟩; simp [binOp, Op.stringOp]; done)
        | skip
    rename_i hs
    refine ⟨?_, VRel.string _⟩
    have : ¬ ((a.size + b.size : Nat) : Int) > IntKind.i64.max := by
      have : IntKind.i64.max = 9223372036854775807 := by decide
      omega
    simp only [binOp, Op.stringOp, this, if_false, Sem.run_pure]
  · cases hx; cases hy
    rw [Sem.run_bind, run_eqGuard_bool, Result.andThen_ok]
    have he := run_eql_of (P := P) (t := t) (x := .bool a) (y := .bool b) (b := a == b) (w := w) fun n => by
      simp only [Op.equalIn, Sem.run_bind, run_underlying hu, Result.andThen_ok, Sem.run_pure]
    cases op <;> simp only [aBin] at h <;> (try cases h)
    · exact ⟨he.1, VRel.bool _⟩
    · exact ⟨he.2, VRel.bool _⟩

theorem nilEq_sound {P : Program} {t : TypeId} {ox oy : Operand} {c b : Bool} {x y : Value} {ρ : Ren} {x' y' : Value} (hx : VRel ρ x x') (hy : VRel ρ y y') (h : nilEq P t c x y = some b)
    (hc : c = true → isConst ox = true ∨ isConst oy = true) (w : World) :
    (do eqGuard .eql t ox oy x' y'; binOp .eql t x' y').run P w = .ok (.bool b) w ∧ (do eqGuard .neq t ox oy x' y'; binOp .neq t x' y').run P w = .ok (.bool (!b)) w := by
  have fin : ∀ (u u' : Value), (∀ op, (eqGuard op t ox oy u u').run P w = .ok () w) → (binOp .eql t u u' = do pure (Value.bool (← Op.equal t u u'))) →
      (binOp .neq t u u' = do pure (Value.bool (!(← Op.equal t u u')))) → (∀ n, (Op.equalIn (n + 1) t u u').run P w = .ok b w) →
      (do eqGuard .eql t ox oy u u'; binOp .eql t u u').run P w = .ok (.bool b) w ∧ (do eqGuard .neq t ox oy u u'; binOp .neq t u u').run P w = .ok (.bool (!b)) w := by
    intro u u' hg h1 h2 he
    have hr := run_eql_of (P := P) (t := t) (x := u) (y := u') (b := b) (w := w) he
    rw [Sem.run_bind, hg, Result.andThen_ok, Sem.run_bind, hg, Result.andThen_ok, h1, h2]
    exact hr
  unfold nilEq at h
  split at h
  · rename_i e hu
    split at h
    · cases h; cases hx
      cases hy <;>
        (refine fin _ _ (fun op => by unfold eqGuard; cases op <;> simp) rfl rfl fun n => ?_
         simp only [Op.equalIn, Sem.run_bind, run_underlying hu, Result.andThen_ok, Sem.run_pure, Option.isNone])
    · cases h; cases hy
      cases hx
      refine fin _ _ (fun op => by unfold eqGuard; cases op <;> simp) rfl rfl fun n => ?_
      simp only [Op.equalIn, Sem.run_bind, run_underlying hu, Result.andThen_ok, Sem.run_pure]
    · cases h
  · rename_i e hu
    split at h
    · cases h; cases hx
      cases hy <;>
        (refine fin _ _ (fun op => by unfold eqGuard; cases op <;> simp) rfl rfl fun n => ?_
         simp only [Op.equalIn, Sem.run_bind, run_underlying hu, Result.andThen_ok, Sem.run_pure, Option.isNone])
    · cases h; cases hy
      cases hx
      refine fin _ _ (fun op => by unfold eqGuard; cases op <;> simp) rfl rfl fun n => ?_
      simp only [Op.equalIn, Sem.run_bind, run_underlying hu, Result.andThen_ok, Sem.run_pure, Option.isNone]
    · cases h
  · rename_i p q r hu
    split at h <;> cases h <;> cases hx <;> cases hy <;>
      (refine fin _ _ (fun op => by unfold eqGuard; cases op <;> simp) rfl rfl fun n => ?_
       simp only [Op.equalIn, Sem.run_bind, run_underlying hu, Result.andThen_ok, Sem.run_pure])
  · rename_i ms hu
    split at h
    · split at h
      · rename_i hcc
        cases h; cases hx; cases hy
        have hcc' := hc hcc
        refine fin _ _ (fun op => ?_) rfl rfl fun n => ?_
        · unfold eqGuard
          cases ox <;> cases oy <;> simp_all [isConst] <;> cases op <;> simp
        · simp only [Op.equalIn, Sem.run_bind, run_underlying hu, Result.andThen_ok, Sem.run_pure]
      · cases h
    · cases h; cases hx; cases hy
      refine fin _ _ (fun op => by unfold eqGuard; cases op <;> simp) rfl rfl fun n => ?_
      simp only [Op.equalIn, Sem.run_bind, run_underlying hu, Result.andThen_ok, Sem.run_pure]
    · cases h; cases hx; cases hy
      refine fin _ _ (fun op => by unfold eqGuard; cases op <;> simp) rfl rfl fun n => ?_
      simp only [Op.equalIn, Sem.run_bind, run_underlying hu, Result.andThen_ok, Sem.run_pure]
    · cases h
  · cases h

theorem aBin_kinds {op : BinOp} {x y v : Value} (h : aBin op x y = some v) :
    (∃ k a k' b, x = .int k a ∧ y = .int k' b) ∨ (∃ a b, x = .string a ∧ y = .string b) ∨ ((∃ a b, x = .bool a ∧ y = .bool b) ∧ (op = .eql ∨ op = .neq)) := by
  unfold aBin at h
  split at h
  · exact .inl ⟨_, _, _, _, rfl, rfl⟩
  · exact .inl ⟨_, _, _, _, rfl, rfl⟩
  · exact .inl ⟨_, _, _, _, rfl, rfl⟩
  · exact .inr (.inr ⟨⟨_, _, rfl, rfl⟩, .inl rfl⟩)
  · exact .inr (.inr ⟨⟨_, _, rfl, rfl⟩, .inr rfl⟩)
  · exact .inr (.inl ⟨_, _, rfl, rfl⟩)
  · cases h

theorem bin2_sound {P : Program} {op : BinOp} {t : TypeId} {ox oy : Operand} {c : Bool} {x y v : Value} {ρ : Ren} {x' y' : Value} (hx : VRel ρ x x') (hy : VRel ρ y y') (h : bin2A P op t c x y = some v)
    (hc : c = true → isConst ox = true ∨ isConst oy = true) (w : World) :
    (do eqGuard op t ox oy x' y'; binOp op t x' y').run P w = .ok v w ∧ VRel ρ v v := by
  unfold bin2A at h
  split at h
  · rename_i u hu
    split at h
    · cases h
      rcases aBin_kinds hu with hk | hk | ⟨hk, _⟩
      · exact aBin_sound hx hy hu (.inl hk) w
      · exact aBin_sound hx hy hu (.inr (.inl hk)) w
      · exact aBin_sound hx hy hu (.inr (.inr ⟨hk, by
          obtain ⟨a, b, rfl, rfl⟩ := hk
          have hb : boolTy P t (.bool a) = true := by assumption
          unfold boolTy at hb
          simp only at hb
          split at hb
          · assumption
          · cases hb⟩)) w
    · cases h
  · cases op <;> simp only at h <;> try (cases h; done)
    · cases hn : nilEq P t c x y with
      | none => simp [hn] at h
      | some b => simp [hn] at h; subst h; exact ⟨(nilEq_sound hx hy hn hc w).1, .bool _⟩
    · cases hn : nilEq P t c x y with
      | none => simp [hn] at h
      | some b => simp [hn] at h; subst h; exact ⟨(nilEq_sound hx hy hn hc w).2, .bool _⟩

theorem aUn_sound {P : Program} {op : UnOp} {x v : Value} {ρ : Ren} {x' : Value} (hx : VRel ρ x x') (h : aUn op x = some v) (w : World) :
    (Op.unary op x').run P w = .ok v w ∧ VRel ρ v v := by
  unfold aUn at h
  split at h <;> cases h <;> cases hx
  · exact ⟨by simp [Op.unary, Op.intArith], .int _ _⟩
  · exact ⟨by simp [Op.unary, Op.intBits], .int _ _⟩
  · exact ⟨by simp [Op.unary], .bool _⟩

/-! ### Parts -/

theorem run_part {P : Program} {ρ : Ren} {cs cs' : Array Value} {t : TypeId} {off : Nat} {v : Value} (hr : LRel ρ cs.toList cs'.toList) (h : partA (aggK P t) cs off (P.cellsOf t) = some v)
    (hi : (P.info? t).isSome = true) (w : World) : ∃ v', (part t cs' off).run P w = .ok v' w ∧ VRel ρ v v' := by
  obtain ⟨i, hi⟩ := Option.isSome_iff_exists.1 hi
  have hsz : P.cellsOf t = i.size := by simp [Program.cellsOf, hi]
  unfold aggK at h
  cases hu : P.underlying t with
  | none => simp [hu, partA] at h
  | some d =>
    have key : ∀ b, aggD d = b → isAggB P t = b := by
      intro b hb; unfold isAggB; rw [hu]; exact hb
    simp only [hu, Option.map_some] at h
    cases hb : aggD d with
    | true =>
      rw [hb] at h
      simp only [partA] at h
      cases h
      refine ⟨.agg (cs'.extract off (off + i.size)), ?_, ?_⟩
      · simp only [part, Sem.run_bind, run_isAgg hu, key _ hb, Result.andThen_ok, if_true, run_sizeOf hi, Sem.run_pure]
      · rw [hsz]
        refine .agg _ _ ?_ fun k v v' a b => ?_
        · have := hr.1; simp at this; simp [this]
        · rw [Array.getElem?_extract] at a b
          split at a
          · split at b
            · exact hr.2 (off + k) v v' (by simpa using a) (by simpa using b)
            · cases b
          · cases a
    | false =>
      rw [hb] at h
      simp only [partA] at h
      obtain ⟨v', p, q⟩ := hr.get (i := off) (v := v) (by simpa using h)
      refine ⟨v', ?_, q⟩
      have p' : cs'[off]? = some v' := by simpa using p
      simp only [part, Sem.run_bind, run_isAgg hu, key _ hb, Result.andThen_ok, Bool.false_eq_true, if_false, p', Sem.run_pure]

theorem list_map_get {α β : Type} {l : List α} {f : α → β} {k : Nat} {x : β} (h : (l.map f)[k]? = some x) : ∃ y, l[k]? = some y ∧ f y = x := by
  rw [List.getElem?_map] at h
  cases hl : l[k]? with
  | none => simp [hl] at h
  | some y => simp [hl] at h; exact ⟨y, rfl, h⟩

theorem field_sound {P : Program} {ρ : Ren} {t : TypeId} {x x' v : Value} {f : Nat} (hx : VRel ρ x x') (h : fieldA P t x f = some v) (w : World) :
    ∃ v', (Instr.field t x' f).run P w = .ok v' w ∧ VRel ρ v v' := by
  unfold fieldA at h
  split at h
  · rename_i sz l cs ht
    obtain ⟨i, fs, hi, hu, rfl, rfl, _⟩ := aTy_struct ht
    obtain ⟨ys, rfl, hr⟩ := hx.agg_inv
    split at h
    · rename_i off size agg hf
      obtain ⟨fd, hfd, he⟩ := list_map_get hf
      cases he
      have hfd' : fs[f]? = some fd := by simpa using hfd
      split at h
      · cases h
      rename_i hz
      have hs : (P.info? fd.type).isSome = true := by
        cases hi2 : P.info? fd.type with
        | none => simp [Program.cellsOf, hi2] at hz
        | some j => rfl
      obtain ⟨v', p, q⟩ := run_part hr h hs w
      refine ⟨v', ?_, q⟩
      simp only [Instr.field, Sem.run_bind, run_underlying hu, Result.andThen_ok, hfd', asAgg, Sem.run_pure, p]
    · cases h
  · cases h

theorem index_sound {P : Program} {ρ : Ren} {t : TypeId} {x x' y y' v : Value} (hx : VRel ρ x x') (hy : VRel ρ y y') (h : indexA P t x y = some v) (w : World) :
    ∃ v', (Instr.index t x' y').run P w = .ok v' w ∧ VRel ρ v v' := by
  unfold indexA at h
  split at h
  · rename_i n e es sz cs k i ht
    obtain ⟨_, j, hi, hu, rfl, hj, rfl, hz⟩ := aTy_array ht
    obtain ⟨ys, rfl, hr⟩ := hx.agg_inv
    cases hy
    split at h
    · rename_i hb
      have hc : P.cellsOf e = j.size := by simp [Program.cellsOf, hj]
      obtain ⟨v', p, q⟩ := run_part (P := P) (t := e) hr (by rw [hc]; exact h) (by rw [hj]; rfl) w
      refine ⟨v', ?_, q⟩
      simp only [Instr.index, Sem.run_bind, asIntOf, Sem.run_pure, Result.andThen_ok, run_underlying hu, Sem.run_ite, if_pos hb, run_sizeOf hj, p]
    · cases h
  · rename_i s k i ht
    have hu := aTy_str ht
    cases hx; cases hy
    split at h
    · rename_i h0
      cases hb : s[i.toNat]? with
      | none => simp [hb] at h
      | some b =>
        simp [hb] at h
        subst h
        refine ⟨_, ?_, VRel.int _ _⟩
        simp [Instr.index, Sem.run_bind, asIntOf, run_underlying hu, h0, hb]
    · cases h
  · cases h

theorem fieldAddr_sound {P : Program} {ρ : Ren} {t : TypeId} {x x' v : Value} {f : Nat} (hx : VRel ρ x x') (h : fieldAddrA P t x f = some v) (w : World) :
    ∃ v', (Instr.fieldAt t x' f).run P w = .ok v' w ∧ VRel ρ v v' := by
  unfold fieldAddrA at h
  split at h
  · rename_i sz l a ht
    obtain ⟨i, fs, hi, hu, rfl, rfl, _⟩ := aTy_struct ht
    obtain ⟨b, o, s⟩ := a
    obtain ⟨rfl, L, hL, rfl⟩ := ptr_inv hx
    split at h
    · rename_i off size agg hf
      obtain ⟨fd, hfd, he⟩ := list_map_get hf
      cases he
      split at h
      · cases h
      · rename_i hz
        cases h
        have hfd' : fs[f]? = some fd := by simpa using hfd
        cases hi2 : P.info? fd.type with
        | none => simp [Program.cellsOf, hi2] at hz
        | some j =>
          have hz' : j.size ≠ 0 := by simpa [Program.cellsOf, hi2] using hz
          refine ⟨.pointer (some ⟨L.blk, L.off + o + fd.offset, none⟩), ?_, ?_⟩
          · simp only [Instr.fieldAt, Sem.run_bind, run_underlying hu, Result.andThen_ok, hfd', Instr.sureAddr, Sem.run_pure, fieldPlace, run_sizeOf hi2, Sem.run_ite, if_neg hz', add_none]
          · rw [add_none, Nat.add_assoc]; exact .ptr hL
    · cases h
  · cases h

theorem indexAddr_sound {P : Program} {ρ : Ren} {t : TypeId} {x x' y y' v : Value} (hx : VRel ρ x x') (hy : VRel ρ y y') (h : indexAddrA P t x y = some v) (w : World) :
    ∃ v', (Instr.indexAt t x' y').run P w = .ok v' w ∧ VRel ρ v v' := by
  unfold indexAddrA at h
  split at h
  · rename_i e es eb a len c k i ht
    obtain ⟨_, j, hi, hu, hj, rfl, rfl, hz⟩ := aTy_slice ht
    cases hy
    obtain ⟨b, o, s⟩ := a
    obtain ⟨rfl, L, o', c', hL, hf, rfl⟩ := slice_inv hx
    split at h
    · rename_i hb
      cases h
      have ho : o' = L.off + o := by
        rcases hf.2 with ⟨h1, _⟩ | ⟨_, h1, _⟩ | ⟨_, h1, _⟩
        · exact h1
        · exact h1
        · omega
      subst ho
      refine ⟨.pointer (some ⟨L.blk, L.off + o + i.toNat * j.size, none⟩), ?_, ?_⟩
      · simp [Instr.indexAt, Sem.run_bind, asIntOf, run_underlying hu, run_sizeOf hj, hb.1, hb.2, add_none]
      · rw [add_none, Nat.add_assoc]; exact .ptr hL
    · cases h
  · rename_i n e es sz a k i ht
    obtain ⟨_, j, hi, hu, rfl, hj, rfl, hz⟩ := aTy_array ht
    cases hy
    obtain ⟨b, o, s⟩ := a
    obtain ⟨rfl, L, hL, rfl⟩ := ptr_inv hx
    split at h
    · rename_i hb
      cases h
      refine ⟨.pointer (some ⟨L.blk, L.off + o + i.toNat * j.size, none⟩), ?_, ?_⟩
      · simp [Instr.indexAt, Sem.run_bind, asIntOf, Instr.sureAddr, run_underlying hu, run_sizeOf hj, hb.1, hb.2, add_none]
      · rw [add_none, Nat.add_assoc]; exact .ptr hL
    · cases h
  · cases h

/-! ### Slices of slices -/

theorem bound_run {P : Program} {ρ : Ren} {x x' : Value} {y y' r : Nat} (hx : VRel ρ x x') (h : boundA x y = some r) (hy : y ≤ y') (code : BoundsCode) (w : World) :
    (Instr.sliceBound x' y' code).run P w = .ok r w ∧ r ≤ y := by
  unfold boundA at h
  split at h
  · rename_i k i
    cases hx
    split at h
    · rename_i hb
      cases h
      have : 0 ≤ i ∧ i ≤ (y' : Int) := ⟨hb.1, by omega⟩
      refine ⟨by simp only [Instr.sliceBound, Sem.run_bind, asIntOf, Sem.run_pure, Result.andThen_ok, Sem.run_ite, if_pos this], by omega⟩
    · cases h
  · cases h

def ORelV (ρ : Ren) : Option Value → Option Value → Prop
  | none, none => True
  | some v, some v' => VRel ρ v v'
  | _, _ => False

theorem bounds_run {P : Program} {ρ : Ren} {lo hi mx lo' hi' mx' : Option Value} {len cap cap' l h m : Nat} (r1 : ORelV ρ lo lo') (r2 : ORelV ρ hi hi') (r3 : ORelV ρ mx mx')
    (hb : boundsA len cap lo hi mx = some (l, h, m)) (hc : cap ≤ cap') (isSlice : Bool) (w : World) :
    ∃ m', (Instr.sliceBounds isSlice len cap' lo' hi' mx').run P w = .ok (l, h, m') w ∧ ((mx = none ∧ m = cap ∧ m' = cap') ∨ (m' = m ∧ m ≤ cap)) ∧ l ≤ h ∧ (len ≤ cap → h ≤ m) := by
  unfold boundsA at hb
  cases mx with
  | none =>
    cases mx' with
    | some _ => exact r3.elim
    | none =>
    refine ⟨cap', ?_⟩
    cases hi with
    | none =>
      cases hi' with
      | some _ => exact r2.elim
      | none =>
      cases lo with
      | none =>
        cases lo' with
        | some _ => exact r1.elim
        | none =>
        simp at hb
        obtain ⟨rfl, rfl, rfl⟩ := hb
        exact ⟨by simp [Instr.sliceBounds], .inl ⟨rfl, rfl, rfl⟩, Nat.zero_le _, fun h => h⟩
      | some v =>
        cases lo' with
        | none => exact r1.elim
        | some v' =>
        cases hq : boundA v len with
        | none => simp [hq] at hb
        | some q =>
          simp [hq] at hb
          obtain ⟨rfl, rfl, rfl⟩ := hb
          obtain ⟨g1, g2⟩ := bound_run (P := P) r1 hq (Nat.le_refl _) .sliceB w
          exact ⟨by simp [Instr.sliceBounds, g1], .inl ⟨rfl, rfl, rfl⟩, g2, fun h => h⟩
    | some u =>
      cases hi' with
      | none => exact r2.elim
      | some u' =>
      cases hp : boundA u cap with
      | none => simp [hp] at hb
      | some p =>
      obtain ⟨k1, k2⟩ := bound_run (P := P) r2 hp hc (if isSlice then .sliceAcap else .sliceAlen) w
      cases lo with
      | none =>
        cases lo' with
        | some _ => exact r1.elim
        | none =>
        simp [hp] at hb
        obtain ⟨rfl, rfl, rfl⟩ := hb
        exact ⟨by simp [Instr.sliceBounds, k1], .inl ⟨rfl, rfl, rfl⟩, Nat.zero_le _, fun _ => k2⟩
      | some v =>
        cases lo' with
        | none => exact r1.elim
        | some v' =>
        cases hq : boundA v p with
        | none => simp [hp, hq] at hb
        | some q =>
          simp [hp, hq] at hb
          obtain ⟨rfl, rfl, rfl⟩ := hb
          obtain ⟨g1, g2⟩ := bound_run (P := P) r1 hq (Nat.le_refl _) .sliceB w
          exact ⟨by simp [Instr.sliceBounds, k1, g1], .inl ⟨rfl, rfl, rfl⟩, g2, fun _ => k2⟩
  | some y =>
    cases mx' with
    | none => exact r3.elim
    | some y' =>
    cases hm : boundA y cap with
    | none => simp [hm] at hb
    | some m0 =>
    obtain ⟨j1, j2⟩ := bound_run (P := P) r3 hm hc (if isSlice then .slice3Acap else .slice3Alen) w
    refine ⟨m0, ?_⟩
    cases hi with
    | none => simp [hm] at hb
    | some u =>
      cases hi' with
      | none => exact r2.elim
      | some u' =>
      cases hp : boundA u m0 with
      | none => simp [hm, hp] at hb
      | some p =>
      obtain ⟨k1, k2⟩ := bound_run (P := P) r2 hp (Nat.le_refl _) .slice3B w
      cases lo with
      | none =>
        cases lo' with
        | some _ => exact r1.elim
        | none =>
        simp [hm, hp] at hb
        obtain ⟨rfl, rfl, rfl⟩ := hb
        exact ⟨by simp [Instr.sliceBounds, j1, k1], .inr ⟨rfl, j2⟩, Nat.zero_le _, fun _ => k2⟩
      | some v =>
        cases lo' with
        | none => exact r1.elim
        | some v' =>
        cases hq : boundA v p with
        | none => simp [hm, hp, hq] at hb
        | some q =>
          simp [hm, hp, hq] at hb
          obtain ⟨rfl, rfl, rfl⟩ := hb
          obtain ⟨g1, g2⟩ := bound_run (P := P) r1 hq (Nat.le_refl _) .slice3C w
          exact ⟨by simp [Instr.sliceBounds, j1, k1, g1], .inr ⟨rfl, j2⟩, g2, fun _ => k2⟩

theorem slice_sound {P : Program} {base : Nat} {w0 : World} {A : Nat → Prop} {ρ : Ren} {H : AHeap} {w : World} (S : Sim base w0 A ρ H w) {t : TypeId} {x x' v : Value} {lo hi mx lo' hi' mx' : Option Value}
    (hx : VRel ρ x x') (r1 : ORelV ρ lo lo') (r2 : ORelV ρ hi hi') (r3 : ORelV ρ mx mx') (h : sliceA P t x lo hi mx H = some v) :
    ∃ v', (Instr.sliceAt t x' lo' hi' mx').run P w = .ok v' w ∧ VRel ρ v v' := by
  unfold sliceA at h
  split at h
  · rename_i s ht
    have hu := aTy_str ht
    cases hx
    cases mx with
    | some y => simp at h
    | none =>
    cases mx' with
    | some _ => exact r3.elim
    | none =>
    cases hb : boundsA s.size s.size lo hi none with
    | none => simp [hb] at h
    | some lhm =>
      obtain ⟨l, hh, m⟩ := lhm
      simp [hb] at h
      subst h
      obtain ⟨m', g1, _⟩ := bounds_run (P := P) (mx := none) (mx' := none) r1 r2 r3 hb (Nat.le_refl _) false w
      exact ⟨_, by simp [Instr.sliceAt, Instr.slice, Sem.run_bind, run_underlying hu, g1], VRel.string _⟩
  · rename_i e es eb len cap ht
    obtain ⟨_, j, _, hu, hj, rfl, rfl, hz⟩ := aTy_slice ht
    cases hx
    cases hb : boundsA len cap lo hi mx with
    | none => simp [hb] at h
    | some lhm =>
      obtain ⟨l, hh, m⟩ := lhm
      simp [hb] at h
      subst h
      obtain ⟨m', g1, g2, _⟩ := bounds_run (P := P) r1 r2 r3 hb (Nat.le_refl _) true w
      have hmm : m' = m := by rcases g2 with ⟨_, a, b⟩ | ⟨a, _⟩ <;> omega
      subst hmm
      refine ⟨.slice none (hh - l) (m' - l), ?_, .nilslice _ _⟩
      simp [Instr.sliceAt, Instr.slice, Sem.run_bind, run_underlying hu, g1, run_sizeOf hj]
  · rename_i e es eb a len cap ht
    obtain ⟨_, j, _, hu, hj, rfl, rfl, hz⟩ := aTy_slice ht
    obtain ⟨b, o, s⟩ := a
    obtain ⟨rfl, L, o', c', hL, hf, rfl⟩ := slice_inv hx
    cases hb : boundsA len cap lo hi mx with
    | none => simp [hb] at h
    | some lhm =>
      obtain ⟨l, hh, m⟩ := lhm
      cases hB : H[b]? with
      | none => simp [hb, hB] at h
      | some B =>
      have hst := S.stat b L B hL hB
      simp only [hb, hB] at h
      have hcc : cap ≤ c' := by
        rcases hf.2 with ⟨_, h1⟩ | ⟨_, _, _, h1, _⟩ | ⟨_, _, h1, h2⟩ <;> omega
      obtain ⟨m', g1, g2, g3, g4⟩ := bounds_run (P := P) r1 r2 r3 hb hcc true w
      have g4 := g4 hf.1
      have hlm : hh - l ≤ m - l := by omega
      have run : (Instr.sliceAt t (.slice (some ⟨L.blk, o', none⟩) len c') lo' hi' mx').run P w =
          .ok (.slice (some (if m' = l then ⟨L.blk, o', none⟩ else ⟨L.blk, o' + l * j.size, none⟩)) (hh - l) (m' - l)) w := by
        by_cases he : m' = l
        · simp [Instr.sliceAt, Instr.slice, Sem.run_bind, run_underlying hu, g1, run_sizeOf hj, he]
        · simp [Instr.sliceAt, Instr.slice, Sem.run_bind, run_underlying hu, g1, run_sizeOf hj, he, add_none]
      refine ⟨_, run, ?_⟩
      split at h
      · rename_i hex
        cases h
        have hL' : L.exact = true := by rw [← hst.2.1]; exact hex
        have ⟨ho, hc⟩ : o' = L.off + o ∧ c' = cap := by
          rcases hf.2 with h1 | ⟨h1, _⟩ | ⟨h1, _⟩
          · exact h1
          · rw [hL'] at h1; cases h1
          · rw [hL'] at h1; cases h1
        have hmm : m' = m := by rcases g2 with ⟨_, a, b⟩ | ⟨a, _⟩ <;> omega
        subst hmm; subst ho
        by_cases he : m' = l
        · simp only [he, if_true]
          exact .slice hL ⟨he ▸ hlm, .inl ⟨rfl, rfl⟩⟩
        · simp only [he, if_false, add_none]
          exact .slice hL ⟨hlm, .inl ⟨by omega, rfl⟩⟩
      · rename_i hex
        split at h
        · rename_i hes
          cases h
          have hL' : L.exact = false := by rw [← hst.2.1]; simpa using hex
          have hLes : L.es = j.size := by rw [← hst.2.2.1]; exact hes
          rw [add_none]
          by_cases he : m' = l
          · simp only [he, if_true, Nat.sub_self]
            have hm0 : m - l = 0 := by rcases g2 with ⟨_, a, b⟩ | ⟨a, _⟩ <;> omega
            have hh0 : hh - l = 0 := by omega
            rw [hm0, hh0]
            exact .slice hL ⟨Nat.le_refl _, .inr (.inr ⟨hL', rfl, rfl, rfl⟩)⟩
          · simp only [he, if_false]
            rcases hf.2 with ⟨ho, hc⟩ | ⟨_, ho, hn, hc, hr⟩ | ⟨_, h1, h2, h3⟩
            · subst ho; subst hc
              have hmm : m' = m := by rcases g2 with ⟨_, a, b⟩ | ⟨a, _⟩ <;> omega
              subst hmm
              exact .slice hL ⟨hlm, .inl ⟨by omega, rfl⟩⟩
            · subst ho
              rcases g2 with ⟨_, a, b⟩ | ⟨a, _⟩
              · subst a; subst b
                refine .slice hL ⟨hlm, .inr (.inl ⟨hL', by omega, ?_, by omega, ?_⟩)⟩
                · have : l ≤ m := by omega
                  rw [hLes] at hn ⊢
                  rw [Nat.sub_mul]
                  have := Nat.mul_le_mul_right j.size this
                  omega
                · have : l ≤ m := by omega
                  rw [show m' - l - (m - l) = m' - m by omega]
                  exact hr
              · subst a
                exact .slice hL ⟨hlm, .inl ⟨by omega, rfl⟩⟩
            · exfalso; have := hf.1; rcases g2 with ⟨_, a, b⟩ | ⟨a, _⟩ <;> omega
        · cases h
  · rename_i n e es sz a ht
    obtain ⟨_, j, _, hu, rfl, hj, rfl, hz⟩ := aTy_array ht
    obtain ⟨b, o, s⟩ := a
    obtain ⟨rfl, L, hL, rfl⟩ := ptr_inv hx
    cases hb : boundsA n n lo hi mx with
    | none => simp [hb] at h
    | some lhm =>
      obtain ⟨l, hh, m⟩ := lhm
      cases hB : H[b]? with
      | none => simp [hb, hB] at h
      | some B =>
      have hst := S.stat b L B hL hB
      simp only [hb, hB] at h
      obtain ⟨m', g1, g2, g3, g4⟩ := bounds_run (P := P) r1 r2 r3 hb (Nat.le_refl _) false w
      have g4 := g4 (Nat.le_refl _)
      have hlm : hh - l ≤ m - l := by omega
      have hmm : m' = m := by rcases g2 with ⟨_, a, b⟩ | ⟨a, _⟩ <;> omega
      subst hmm
      split at h
      · cases h
        by_cases he : m' = l
        · refine ⟨.slice (some ⟨L.blk, L.off + o, none⟩) (hh - l) (m' - l), ?_, ?_⟩
          · simp [Instr.sliceAt, Sem.run_bind, run_underlying hu, g1, run_sizeOf hj, he, Instr.sureAddr]
          · simp only [he, if_true]; exact .slice hL ⟨he ▸ hlm, .inl ⟨rfl, rfl⟩⟩
        · refine ⟨.slice (some ⟨L.blk, L.off + o + l * j.size, none⟩) (hh - l) (m' - l), ?_, ?_⟩
          · simp [Instr.sliceAt, Sem.run_bind, run_underlying hu, g1, run_sizeOf hj, he, Instr.sureAddr, add_none]
          · simp only [he, if_false, add_none]; exact .slice hL ⟨hlm, .inl ⟨by omega, rfl⟩⟩
      · cases h
  · cases h

end Go.Mach
