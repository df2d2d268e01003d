/- Calls: what a table of functions must tell, and what is mine behind a call. Definitions and laws; no condition. -/
import Derived.Test.YtofinnadgpnjhaaVOp5
namespace Go.Mach
set_option linter.unusedVariables false
set_option linter.unusedSimpArgs false

/-- At the beginning of a call: all that is there may be read. -/
def ctx0 (H : AHeap) (hs : Nat → Value → Prop) : Ctx := ⟨H.length, fun b => blk? H b, fun _ => none, [], hs⟩

/-- Results told as plain data, the lists of one's own among them by their objects. -/
inductive XR (c : Ctx) : List VV → List Nat → List Value → Prop
  | nil : XR c [] [] []
  | pl {v : Value} {l : List VV} {is : List Nat} {azz : List Value} (h : plainB v = true) (t : XR c l is azz) : XR c (.pl v :: l) is (v :: azz)
  | nw {T : Ty} {x : List T.den} {i : Nat} {l : List VV} {is : List Nat} {azz : List Value} (h : c.h[i]? = some (.lst true T x false)) (t : XR c l is azz) : XR c (.nw T x :: l) (i :: is) (sl (c.ρ i) x.length :: azz)
  | nl {T : Ty} {l : List VV} {is : List Nat} {azz : List Value} (t : XR c l is azz) : XR c (.nw T [] :: l) is (.slice none 0 0 :: azz)

inductive XS (c : Ctx) : List (Bool × List VV) → List Nat → List Value → Prop
  | nil : XS c [] [] []
  | agg {cs : List VV} {l : List (Bool × List VV)} {is js : List Nat} {azz vs : List Value} (h : XR c cs is azz) (t : XS c l js vs) : XS c ((true, cs) :: l) (is ++ js) (.agg azz.toArray :: vs)
  | one {x : VV} {l : List (Bool × List VV)} {is js : List Nat} {a : Value} {vs : List Value} (h : XR c [x] is [a]) (t : XS c l js vs) : XS c ((false, [x]) :: l) (is ++ js) (a :: vs)

/-- What a call leaves. -/
def ResOk (H H' : AHeap) (sl : List (Bool × List VV)) (v : Value) : Prop :=
  ∃ c is vs, Ok (fun b => blk? H b) H c H' ∧ XS c sl is vs ∧ is.Nodup ∧ v = wrap1 vs

def SoundAt (P : Program) (fl : Nat) (f : FuncId) (azz : Array Value) (H : AHeap) (Q : List (Bool × List VV) → Prop) : Prop := WCall P fl f azz H fun v H' => ∃ sl, Q sl ∧ ResOk H H' sl v

def noHs : Nat → Value → Prop := fun _ _ => False

def Sound (P : Program) (f : FuncId) (args : List VV) (Q : List (Bool × List VV) → Prop) : Prop :=
  ∀ fl H (azz : List Value), fl ≤ H.length → All2 (R2 (ctx0 H noHs)) args azz → SoundAt P fl f azz.toArray H Q

/-- What a value that came in as a function does. -/
def HsOk (G : Cfg) (H0 : AHeap) (hs : Nat → Value → Prop) : Prop :=
  ∀ i a, hs i a → ∃ g cp, a = .func (.func g) #[] cp ∧ goodFn G.P g = true ∧ ∀ args Q, G.Γ i args Q → ∀ fl H (azz : List Value), Pre H0 H → fl ≤ H.length → All2 (R2 (ctx0 H noHs)) args azz → SoundAt G.P fl g (azz.toArray ++ cp) H Q

section
variable {G : Cfg} {F0 : Fz} {H0 : AHeap} {c c1 c' cc : Ctx} {H H' : AHeap} {t : List (Nat × VV)} {ta : Temps} {n fl : Nat}

/-- A new object whose block is nobody's. -/
theorem Ok.adopt (h : Ok F0 H0 c H) (o : VO) (a : Option Nat) (ha : ∀ b, a = some b → ∀ i, c.ρ i ≠ some b) (ho : ObjOk (addC c a o) H c.h.length o) : Ok F0 H0 (addC c a o) H where
  n0 := h.n0
  pre := h.pre
  fz := h.fz
  low := h.low
  obj := fun i o' hi => by
    rcases addC_get hi with ⟨rfl, rfl⟩ | h1
    · exact ho
    · exact (h.obj i o' h1).mono (addC_le a o) ((addC_le a o).ρ i (ltl_of_get h1)) (fun _ _ => rfl) (fun b B _ hB => hB) (Nat.le_refl _)
  inj := fun i j b hij hi hj => by
    have hi : (if i = c.h.length then a else c.ρ i) = some b := hi
    have hj : (if j = c.h.length then a else c.ρ j) = some b := hj
    show (c.h ++ [o])[i]? = _ ∨ (c.h ++ [o])[j]? = _
    split at hi
    · split at hj
      · omega
      · exact absurd hj (ha b hi j)
    · split at hj
      · exact absurd hi (ha b hj i)
      · rw [List.getElem?_append_left (h.lt hi), List.getElem?_append_left (h.lt hj)]
        exact h.inj i j b hij hi hj
  dom := fun i hi => by
    have hi : (c.h ++ [o]).length ≤ i := hi
    simp at hi
    show (if i = c.h.length then a else c.ρ i) = none
    rw [if_neg (by omega)]
    exact h.dom i (by omega)

/-- What of mine is left behind a call: all, and new things may be read. -/
def callC (c : Ctx) (n : Nat) (F : Fz) : Ctx := ⟨c.n0, fun b => if b < n then c.F b else F b, c.ρ, c.h, c.hs⟩

theorem callC_le (h : Ok F0 H0 c H) (F : Fz) : Le c (callC c H.length F) where
  n0 := rfl
  F := fun b B e => by show (if b < H.length then c.F b else F b) = _; rw [if_pos (h.below e)]; exact e
  hs := rfl
  len := Nat.le_refl _
  ρ := fun _ _ => rfl
  h := fun i o e => ⟨o, e, VO.le_refl o⟩

theorem Ok.called (h : Ok F0 H0 c H) {Fc : Fz} (k : Ok Fc H cc H') : Ok F0 H0 (callC c H.length cc.F) H' where
  n0 := h.n0
  pre := h.pre.trans k.pre
  fz := fun b B e => by
    have e : (if b < H.length then c.F b else cc.F b) = some B := e
    split at e
    · exact k.pre.blk (h.fz b B e)
    · exact k.fz b B e
  low := fun b hb => by
    show (if b < H.length then c.F b else cc.F b) = _
    rw [if_pos (Nat.lt_of_lt_of_le hb h.pre.len)]
    exact h.low b hb
  obj := fun i o hi => (h.obj i o hi).mono (callC_le h cc.F) rfl (fun b e => by
    show (if b < H.length then c.F b else cc.F b) = _
    rw [if_pos (h.blk e).2]) (fun b B _ hB => k.pre.blk hB) k.pre.len
  inj := h.inj
  dom := h.dom

/-- While the results of a call are made mine. -/
structure Imp (n : Nat) (cc c1 : Ctx) (used : List Nat) : Prop where
  F : ∀ b, n ≤ b → c1.F b = cc.F b
  old : ∀ i b, c1.ρ i = some b → b < n ∨ ∃ j ∈ used, cc.ρ j = some b

theorem importL_sound {Fc : Fz} (k : Ok Fc H cc H') : ∀ {cs : List VV} {is : List Nat} {azz : List Value}, XR cc cs is azz → ∀ {c1 : Ctx} {used : List Nat}, Ok F0 H0 c1 H' → H0.length ≤ H.length → Imp H.length cc c1 used →
    (∀ j ∈ used, ∃ T x, cc.h[j]? = some (.lst true T x false)) → (used ++ is).Nodup →
    ∃ c2, Le c1 c2 ∧ c2.h = (importL cs c1.h).2 ∧ Ok F0 H0 c2 H' ∧ Imp H.length cc c2 (used ++ is) ∧ (∀ j ∈ used ++ is, ∃ T x, cc.h[j]? = some (.lst true T x false)) ∧ All2 (RL c2) (importL cs c1.h).1 azz := by
  intro cs is azz hx
  induction hx with
  | nil =>
    intro c1 used h1 hl hi hu hn
    exact ⟨c1, Le.refl c1, rfl, h1, by rw [List.append_nil]; exact hi, by rw [List.append_nil]; exact hu, .nil⟩
  | pl h t ih =>
    intro c1 used h1 hl hi hu hn
    obtain ⟨c2, k1, k2, k3, k4, k5, k6⟩ := ih h1 hl hi hu hn
    exact ⟨c2, k1, k2, k3, k4, k5, .cons ⟨rfl, h⟩ k6⟩
  | @nw T x i l is azz h t ih =>
    intro c1 used h1 hl hi hu hn
    have hkn := k.n0
    have okc := k.obj i _ h
    have hlst := okc.lst _ _ _ _ rfl
    have hi_not : i ∉ used := by
      intro hm
      rw [List.nodup_append] at hn
      exact hn.2.2 i hm i List.mem_cons_self rfl
    have hadd : Ok F0 H0 (addC c1 (cc.ρ i) (.lst true T x false)) H' := by
      refine h1.adopt _ _ (fun b hb j hj => ?_) ?_
      · rcases hi.old j b hj with hlt | ⟨j', hj1, hj2⟩
        · have := (k.blk hb).1; omega
        · obtain ⟨T', x', hj3⟩ := hu j' hj1
          rcases k.inj i j' b (fun e => hi_not (e ▸ hj1)) hb hj2 with e | e
          · rw [h] at e; cases e
          · rw [hj3] at e; cases e
      · exact {
          lo := fun b e => by
            rw [addC_ρ] at e
            have := k.blk e
            exact ⟨by show c1.n0 ≤ b; rw [h1.n0]; omega, this.2⟩
          box := fun _ _ e => (by cases e)
          lst := fun q T' x' fr e => by
            cases e
            rw [addC_ρ]
            refine ⟨hlst.1, fun b e => ?_⟩
            obtain ⟨as', ex, m1, m2, _, m4⟩ := hlst.2 b e
            refine ⟨as', ex, m1, m2.mono ?_, fun e => (by cases e), fun _ => ?_⟩
            · intro y Y hY
              unfold cutF at hY ⊢
              split at hY
              · cases hY
              · rename_i hh
                have hge : H.length ≤ y := by
                  rcases Nat.lt_or_ge y H.length with hlt | hge
                  · exact absurd ⟨rfl, by rw [hkn]; exact hlt⟩ hh
                  · exact hge
                rw [if_neg (by intro ⟨_, hh2⟩; have : (addC c1 (cc.ρ i) (.lst true T x false)).n0 = c1.n0 := rfl; rw [this, h1.n0] at hh2; omega)]
                show c1.F y = some Y
                rw [hi.F y hge]; exact hY
            · show c1.F b = none
              rw [hi.F b (by have := (k.blk e).1; omega)]
              exact m4 rfl
          dead := fun _ e => (by cases e) }
    have himp : Imp H.length cc (addC c1 (cc.ρ i) (.lst true T x false)) (used ++ [i]) := {
      F := hi.F
      old := fun j b e => by
        have e : (if j = c1.h.length then cc.ρ i else c1.ρ j) = some b := e
        split at e
        · exact .inr ⟨i, by simp, e⟩
        · rcases hi.old j b e with hlt | ⟨j', hj1, hj2⟩
          · exact .inl hlt
          · exact .inr ⟨j', List.mem_append_left _ hj1, hj2⟩ }
    obtain ⟨c2, k1, k2, k3, k4, k5, k6⟩ := ih hadd hl himp (by
      intro j hj
      rcases List.mem_append.1 hj with hj | hj
      · exact hu j hj
      · rw [List.mem_singleton.1 hj]; exact ⟨T, x, h⟩) (by rw [List.append_assoc]; exact hn)
    rw [List.append_assoc] at k4 k5
    refine ⟨c2, (addC_le _ _).trans k1, k2, k3, k4, k5, .cons ?_ k6⟩
    have := RL.mono k1 _ _ (show RL (addC c1 (cc.ρ i) (.lst true T x false)) (.own c1.h.length) (sl (cc.ρ i) x.length) from R2_topl rfl)
    exact this
  | @nl T l is azz t ih =>
    intro c1 used h1 hl hi hu hn
    have hadd := h1.addNil true T (Pre.refl H')
    have himp : Imp H.length cc (addC c1 none (.lst true T [] false)) used := {
      F := hi.F
      old := fun j b e => by
        have e : (if j = c1.h.length then none else c1.ρ j) = some b := e
        split at e
        · cases e
        · exact hi.old j b e }
    obtain ⟨c2, k1, k2, k3, k4, k5, k6⟩ := ih hadd hl himp hu hn
    refine ⟨c2, (addC_le _ _).trans k1, k2, k3, k4, k5, .cons ?_ k6⟩
    exact RL.mono k1 _ _ (show RL (addC c1 none (.lst true T [] false)) (.own c1.h.length) (sl none 0) from R2_topl rfl)

theorem importS_sound {Fc : Fz} (k : Ok Fc H cc H') : ∀ {sl : List (Bool × List VV)} {is : List Nat} {vs : List Value}, XS cc sl is vs → ∀ {c1 : Ctx} {used : List Nat}, Ok F0 H0 c1 H' → H0.length ≤ H.length → Imp H.length cc c1 used →
    (∀ j ∈ used, ∃ T x, cc.h[j]? = some (.lst true T x false)) → (used ++ is).Nodup →
    ∃ c2, Le c1 c2 ∧ c2.h = (importS sl c1.h).2 ∧ Ok F0 H0 c2 H' ∧ All2 (R1 c2) (importS sl c1.h).1 vs := by
  intro sl is vs hx
  induction hx with
  | nil =>
    intro c1 used h1 hl hi hu hn
    exact ⟨c1, Le.refl c1, rfl, h1, .nil⟩
  | @agg cs l is js azz vs h t ih =>
    intro c1 used h1 hl hi hu hn
    rw [← List.append_assoc] at hn
    obtain ⟨c2, k1, k2, k3, k4, k5, k6⟩ := importL_sound k h h1 hl hi hu (List.nodup_append.1 hn).1
    obtain ⟨c3, g1, g2, g3, g4⟩ := ih k3 hl k4 k5 hn
    rw [k2] at g2 g4
    refine ⟨c3, k1.trans g1, ?_, g3, ?_⟩
    · simp only [importS]; exact g2
    · simp only [importS, if_true]
      exact .cons ⟨azz, rfl, k6.mono (RL.mono g1)⟩ g4
  | @one x l is js a vs h t ih =>
    intro c1 used h1 hl hi hu hn
    rw [← List.append_assoc] at hn
    obtain ⟨c2, k1, k2, k3, k4, k5, k6⟩ := importL_sound k h h1 hl hi hu (List.nodup_append.1 hn).1
    obtain ⟨c3, g1, g2, g3, g4⟩ := ih k3 hl k4 k5 hn
    rw [k2] at g2 g4
    refine ⟨c3, k1.trans g1, ?_, g3, ?_⟩
    · simp only [importS]; exact g2
    · simp only [importS, Bool.false_eq_true, if_false]
      have hk := k6.mono (RL.mono g1)
      cases e : (importL [x] c1.h).1 with
      | nil => rw [e] at hk; cases hk
      | cons y ys =>
        rw [e] at hk
        cases hk with
        | cons hr _ =>
          refine .cons ?_ g4
          show R1 c3 y a
          cases y <;> first | exact hr | exact (show False from hr).elim

/-- Handed to a call. -/
theorem lendL_rel (hok : Ok F0 H0 c H) {hs : Nat → Value → Prop} {v : VV} {a : Value} (h : RL c v a) : RL (ctx0 H hs) (lendL c.h v) a := by
  have hext : ∀ o, (cutF o c.n0 c.F).ext (cutF false (ctx0 H hs).n0 (ctx0 H hs).F) := by
    intro o b B hb
    have := hok.fz b B (cutF_le _ _ hb)
    unfold cutF
    rw [if_neg (by simp)]
    exact this
  cases v with
  | pl v => exact h
  | fz o T l =>
    obtain ⟨ad, k, h1, h2⟩ := h
    exact ⟨ad, k, h1, h2.mono (hext o) (RT.mono (hext o) T)⟩
  | own i =>
    unfold lendL
    simp only
    split
    · rename_i q T l fr e
      have hi := getO_get e (by intro e; cases e)
      have ha : a = sl (c.ρ i) l.length := R2_own (c := c) h hi
      refine ⟨_, _, ha, ?_⟩
      have hlst := (hok.obj i _ hi).lst _ _ _ _ rfl
      cases hb : c.ρ i with
      | none =>
        have := hlst.1 hb
        subst this
        exact ⟨Nat.le_refl _, .inl rfl⟩
      | some b =>
        obtain ⟨azz, ex, k1, k2, _⟩ := hlst.2 b hb
        refine (k2.mono (hext q)).slice (b := b) (B := ⟨azz, T.w, ex, true⟩) rfl ?_ (.inr rfl)
        unfold cutF
        rw [if_neg (by simp)]
        exact k1
    · trivial
  | _ => trivial

theorem RL_R1 {v : VV} {a : Value} (h : RL c v a) : R1 c v a := by
  cases v <;> first | exact h | exact (show False from h).elim

theorem R1_leaf {v : VV} {a : Value} (h1 : ∀ l, v ≠ .agg l) (h2 : ∀ l o, v ≠ .bx l o) (h : R1 c v a) : RL c v a := by
  cases v <;> first | exact h | exact absurd rfl (h1 _) | exact absurd rfl (h2 _ _)

theorem R2_flat {v : VV} {a : Value} (h1 : ∀ l, v ≠ .tup l) (h2 : ∀ f l, v ≠ .fn f l) (h : R2 c v a) : R1 c v a := by
  cases v <;> first | exact h | exact absurd rfl (h1 _) | exact absurd rfl (h2 _ _)

theorem lend1_rel (hok : Ok F0 H0 c H) {hs : Nat → Value → Prop} {v : VV} {a : Value} (h : R1 c v a) : R1 (ctx0 H hs) (lend1 c.h v) a := by
  cases v
  case agg l =>
    obtain ⟨azz, h1, h2⟩ := h
    exact ⟨azz, h1, h2.mapL fun v a h => lendL_rel hok h⟩
  case bx l off =>
    obtain ⟨b, B, h1, h2, h3⟩ := h
    exact ⟨b, B, h1, hok.fz b B h2, h3.mapL fun v a h => lendL_rel hok h⟩
  case ptr i off =>
    obtain ⟨b, cs, fr, h1, h2, h3⟩ : RL c (.ptr i off) a := h
    unfold lend1
    simp only [getO_of h1]
    obtain ⟨b', azz, k1, k2, k3, _⟩ := (hok.obj i _ h1).box _ _ rfl
    rw [h2] at k1; cases k1
    exact ⟨b, _, h3, k2, k3.mapL fun v a h => lendL_rel hok h⟩
  all_goals exact RL_R1 (lendL_rel hok (R1_leaf (fun _ e => by cases e) (fun _ _ e => by cases e) h))

theorem R1_R2' {v : VV} {a : Value} (h : R1 c v a) : R2 c v a := R1_R2 h

theorem lend_rel (hok : Ok F0 H0 c H) {hs : Nat → Value → Prop} {v : VV} {a : Value} (h : R2 c v a) : R2 (ctx0 H hs) (lend c.h v) a := by
  cases v
  case fn f l =>
    obtain ⟨azz, h1, h2⟩ := h
    exact ⟨azz, h1, h2.mapL fun v a h => lend1_rel hok h⟩
  case tup l => exact trivial
  all_goals exact R1_R2 (lend1_rel hok (R2_flat (fun _ e => by cases e) (fun _ _ e => by cases e) h))

theorem wrapV_rel {vs : List VV} {azz : List Value} (h : All2 (R1 c) vs azz) : R2 c (wrapV vs) (wrap1 azz) := by
  cases h with
  | nil => exact ⟨[], rfl, .nil⟩
  | cons h t =>
    cases t with
    | nil => exact R1_R2 h
    | cons h2 t2 => exact ⟨_, rfl, .cons h (.cons h2 t2)⟩

/-- A call, told by the table. -/
theorem vcall_sound (hO : ∀ f args Q, G.O f args Q → Sound G.P f args Q) (hok : Ok F0 H0 c H) (hΓ : HsOk G H0 c.hs) {f : VV} {args : List VV} {fa : Value} {azz : List Value} {K : VV → List VO → Prop} {flc : Nat} (hfl : flc ≤ H.length)
    (hf : R2 c f fa) (ha : All2 (R2 c) args azz) (hv : vcall G f args c.h K) :
    ∃ g first cp, fa = .func (.func g) first cp ∧ goodFn G.P g = true ∧ WCall G.P flc g (first ++ azz.toArray ++ cp) H fun v H' => ∃ v' c', K v' c'.h ∧ Le c c' ∧ Ok F0 H0 c' H' ∧ R2 c' v' v := by
  have fin : ∀ {g : FuncId} {xs : Array Value}, SoundAt G.P flc g xs H (fun r => K (wrapV (importS r c.h).1) (importS r c.h).2) → WCall G.P flc g xs H fun v H' => ∃ v' c', K v' c'.h ∧ Le c c' ∧ Ok F0 H0 c' H' ∧ R2 c' v' v := by
    intro g xs h
    refine WCall.mono h ?_
    rintro v H' ⟨sl, hK, cc, is, vs, k1, k2, k3, rfl⟩
    have h1 := hok.called k1
    obtain ⟨c2, g1, g2, g3, g4⟩ := importS_sound k1 k2 (c1 := callC c H.length cc.F) (used := []) h1 hok.pre.len {
      F := fun b hb => by show (if b < H.length then c.F b else cc.F b) = _; rw [if_neg (by omega)]
      old := fun i b e => .inl (hok.blk e).2 } (fun j hj => by cases hj) (by simpa using k3)
    refine ⟨_, c2, ?_, (callC_le hok cc.F).trans g1, g3, wrapV_rel g4⟩
    rw [g2]; exact hK
  unfold vcall at hv
  split at hv
  · rename_i g caps
    split at hv
    · rename_i hg
      obtain ⟨cp, rfl, hcp⟩ := hf
      refine ⟨g, #[], cp.toArray, rfl, hg, ?_⟩
      have hargs : All2 (R2 (ctx0 H noHs)) (args.map (lend c.h) ++ caps.map (lend c.h)) (azz ++ cp) := (ha.mapL fun v a h => lend_rel hok h).app (hcp.mapL fun v a h => lend_rel hok (R1_R2 h))
      have := hO _ _ _ hv flc H _ hfl hargs
      rw [show (#[] : Array Value) ++ azz.toArray ++ cp.toArray = (azz ++ cp).toArray by simp]
      exact fin this
    · exact hv.elim
  · rename_i i
    obtain ⟨g, cp, rfl, hg, h⟩ := hΓ i fa hf
    refine ⟨g, #[], cp, rfl, hg, ?_⟩
    have hargs : All2 (R2 (ctx0 H noHs)) (args.map (lend c.h)) azz := ha.mapL fun v a h => lend_rel hok h
    have := h _ _ hv flc H _ hok.pre hfl hargs
    rw [show (#[] : Array Value) ++ azz.toArray ++ cp = azz.toArray ++ cp by simp]
    exact fin this
  · exact hv.elim

end
end Go.Mach
