/- Calls: what a table of functions must tell, and what is mine behind a call. Definitions and laws; no condition. -/
import Derived.Test.YtajjfflbcpkokaaGreatVOp5
namespace Go.Mach
set_option linter.unusedVariables false
set_option linter.unusedSimpArgs false

/-- At the beginning of a call: what may be read. -/
def ctxF (F : Fz) (H : AHeap) (hs : Nat → Value → Prop) : Ctx := ⟨H.length, F, fun _ => none, [], hs⟩
/-- All that is there. -/
abbrev ctx0 (H : AHeap) (hs : Nat → Value → Prop) : Ctx := ctxF (fun b => blk? H b) H hs

/-- Results told as plain data, the lists of one's own among them by their objects. -/
inductive XR (c : Ctx) : List VV → List Nat → List Value → Prop
  | nil : XR c [] [] []
  | pl {v : Value} {l : List VV} {is : List Nat} {as : List Value} (h : plainB v = true) (t : XR c l is as) : XR c (.pl v :: l) is (v :: as)
  | nw {T : Ty} {x : List T.den} {i : Nat} {l : List VV} {is : List Nat} {as : List Value} (h : c.h[i]? = some (.lst true T x false)) (t : XR c l is as) : XR c (.nw T x :: l) (i :: is) (sl (c.ρ i) x.length :: as)
  | nl {T : Ty} {l : List VV} {is : List Nat} {as : List Value} (t : XR c l is as) : XR c (.nw T [] :: l) is (.slice none 0 0 :: as)
  | al {T : Ty} {x : List T.den} {a : Value} {l : List VV} {is : List Nat} {as : List Value} (h : RL c (.fz false T x) a) (t : XR c l is as) : XR c (.fz false T x :: l) is (a :: as)
  | er {b : Bool} {a : Value} {l : List VV} {is : List Nat} {as : List Value} (h : RL c (.er b) a) (t : XR c l is as) : XR c (.er b :: l) is (a :: as)

inductive XS (c : Ctx) : List (Bool × List VV) → List Nat → List Value → Prop
  | nil : XS c [] [] []
  | agg {cs : List VV} {l : List (Bool × List VV)} {is js : List Nat} {as vs : List Value} (h : XR c cs is as) (t : XS c l js vs) : XS c ((true, cs) :: l) (is ++ js) (.agg as.toArray :: vs)
  | one {x : VV} {l : List (Bool × List VV)} {is js : List Nat} {a : Value} {vs : List Value} (h : XR c [x] is [a]) (t : XS c l js vs) : XS c ((false, [x]) :: l) (is ++ js) (a :: vs)

/-- .. and lists that are nil just if there is nothing in them. -/
inductive XZ (c : Ctx) : List (Bool × List VV) → List Nat → List Value → Prop
  | nil : XZ c [] [] []
  | s {p : Bool × List VV} {l : List (Bool × List VV)} {is js : List Nat} {a : Value} {vs : List Value} (h : XS c [p] is [a]) (t : XZ c l js vs) : XZ c (p :: l) (is ++ js) (a :: vs)
  | z {T : Ty} {x : List T.den} {l : List (Bool × List VV)} {is js : List Nat} {a : Value} {vs : List Value} (h : XR c [.nw T x] is [a]) (hz : x = [] → a = .slice none 0 0) (t : XZ c l js vs) :
      XZ c ((false, [.nw T x, .undef]) :: l) (is ++ js) (a :: vs)

theorem XS.toZ {c : Ctx} {sl : List (Bool × List VV)} {is : List Nat} {vs : List Value} (h : XS c sl is vs) : XZ c sl is vs := by
  induction h with
  | nil => exact .nil
  | agg h t ih =>
    have := XZ.s (XS.agg h .nil) ih
    rwa [List.append_nil] at this
  | one h t ih =>
    have := XZ.s (XS.one h .nil) ih
    rwa [List.append_nil] at this

theorem XS.push {c : Ctx} {p : Bool × List VV} {is : List Nat} {a : Value} (h : XS c [p] is [a]) {l : List (Bool × List VV)} {js : List Nat} {vs : List Value} (t : XS c l js vs) : XS c (p :: l) (is ++ js) (a :: vs) := by
  cases h with
  | agg h k => cases k; rw [List.append_nil]; exact .agg h t
  | one h k => cases k; rw [List.append_nil]; exact .one h t

theorem splitNz_sound {c : Ctx} {sl : List (Bool × List VV)} {is : List Nat} {vs : List Value} (h : XZ c sl is vs) : ∀ {k : List (Bool × List VV) → Prop}, splitNz sl k → ∃ sl' is', k sl' ∧ XS c sl' is' vs ∧ is'.Sublist is := by
  induction h with
  | nil => intro k hk; exact ⟨[], [], hk, .nil, List.Sublist.refl _⟩
  | @s p l is js a vs h t ih =>
    intro k hk
    have key : splitNz l fun r' => k (p :: r') := by
      cases h with
      | agg h _ => exact hk
      | @one x _ _ _ _ _ h _ => cases x <;> exact hk
    obtain ⟨sl', is', h1, h2, h3⟩ := ih key
    exact ⟨_, _, h1, XS.push h h2, List.Sublist.append (List.Sublist.refl _) h3⟩
  | @z T x l is js a vs h hz t ih =>
    intro k hk
    obtain ⟨hA, hB⟩ := hk
    by_cases hx : x = []
    · obtain ⟨sl', is', h1, h2, h3⟩ := ih (hA hx)
      refine ⟨_, _, h1, XS.one (is := []) (a := a) ?_ h2, List.Sublist.append (List.nil_sublist _) h3⟩
      rw [hz hx]
      exact XR.pl rfl .nil
    · obtain ⟨sl', is', h1, h2, h3⟩ := ih (hB hx)
      exact ⟨_, _, h1, XS.one h h2, List.Sublist.append (List.Sublist.refl _) h3⟩

/-- What is read alone. -/
def roL : VV → Bool
  | .fz o _ _ => !o
  | .pl _ => true
  | _ => false
def roB : VV → Bool
  | .bx l _ => l.all roL
  | v => roL v

theorem roL_ext {c c2 : Ctx} (hF : c.F.ext c2.F) {v : VV} {a : Value} (hv : roL v = true) (h : RL c v a) : RL c2 v a := by
  cases v with
  | pl v => exact h
  | fz o T x =>
    have ho : o = false := by simpa [roL] using hv
    subst ho
    obtain ⟨ad, q, g1, g2⟩ := h
    have hext : (cutF false c.n0 c.F).ext (cutF false c2.n0 c2.F) := by
      intro b B hb
      have := hF _ _ (cutF_le _ _ hb)
      unfold cutF
      rw [if_neg (by simp)]
      exact this
    exact ⟨ad, q, g1, g2.mono hext (RT.mono hext T)⟩
  | _ => cases hv
theorem roL_exts {c c2 : Ctx} (hF : c.F.ext c2.F) : ∀ {l : List VV} {as : List Value}, l.all roL = true → All2 (RL c) l as → All2 (RL c2) l as
  | [], _, _, .nil => .nil
  | _ :: _, _, hv, .cons h t => by
    simp only [List.all_cons, Bool.and_eq_true] at hv
    exact .cons (roL_ext hF hv.1 h) (roL_exts hF hv.2 t)
theorem roB_ext {c c2 : Ctx} (hF : c.F.ext c2.F) {v : VV} {a : Value} (hv : roB v = true) (h : R1 c v a) : R1 c2 v a := by
  cases v with
  | pl v => exact h
  | fz o T x => exact roL_ext hF (v := .fz o T x) hv h
  | bx l off =>
    obtain ⟨b, B, h1, h2, h3⟩ := h
    exact ⟨b, B, h1, hF _ _ h2, roL_exts hF hv h3⟩
  | _ => cases hv
theorem roB_exts {c c2 : Ctx} (hF : c.F.ext c2.F) : ∀ {l : List VV} {as : List Value}, l.all roB = true → All2 (R1 c) l as → All2 (R1 c2) l as
  | [], _, _, .nil => .nil
  | _ :: _, _, hv, .cons h t => by
    simp only [List.all_cons, Bool.and_eq_true] at hv
    exact .cons (roB_ext hF hv.1 h) (roB_exts hF hv.2 t)

/-- What a call leaves. -/
def ResOk (F : Fz) (H H' : AHeap) (sl : List (Bool × List VV)) (v : Value) : Prop :=
  (∃ c is vs, Ok F H c H' ∧ XZ c sl is vs ∧ is.Nodup ∧ v = wrap1 vs) ∨ ∃ f l c, sl = [(false, [.fn f l])] ∧ Ok F H c H' ∧ l.all roB = true ∧ R2 c (.fn f l) v

def SoundAt (P : Program) (F : Fz) (fl : Nat) (f : FuncId) (as : Array Value) (H : AHeap) (Q : List (Bool × List VV) → Prop) : Prop := WCall P fl f as H fun v H' => ∃ sl, Q sl ∧ ResOk F H H' sl v

def noHs : Nat → Value → Prop := fun _ _ => False

def Sound (P : Program) (f : FuncId) (args : List VV) (Q : List (Bool × List VV) → Prop) : Prop :=
  ∀ (F : Fz) fl H (as : List Value), (∀ b B, F b = some B → blk? H b = some B) → fl ≤ H.length → All2 (R2 (ctxF F H noHs)) args as → SoundAt P F fl f as.toArray H Q

section
variable {G : Cfg} {F0 : Fz} {H0 : AHeap} {c c1 c' cc : Ctx} {H H' : AHeap} {t : List (Nat × VV)} {ta : Temps} {n fl : Nat}

/-- A new object whose block is nobody's. -/
theorem Ok.adopt (h : Ok F0 H0 c H) (o : VO) (a : Option Nat) (ha : ∀ b, a = some b → ∀ i, c.ρ i ≠ some b) (ho : ObjOk (addC c a o) H c.h.length o) : Ok F0 H0 (addC c a o) H where
  n0 := h.n0
  pre := h.pre
  fz := h.fz
  low := h.low
  obj := fun i o' hi => by
    rcases addC_get hi with ⟨rfl, rfl⟩ | h1
    · exact ho
    · exact (h.obj i o' h1).mono (addC_le a o) ((addC_le a o).ρ i (ltl_of_get h1)) (fun _ _ => rfl) (fun b B _ hB => hB) (Nat.le_refl _)
  inj := fun i j b hij hi hj => by
    have hi : (if i = c.h.length then a else c.ρ i) = some b := hi
    have hj : (if j = c.h.length then a else c.ρ j) = some b := hj
    show (c.h ++ [o])[i]? = _ ∨ (c.h ++ [o])[j]? = _
    split at hi
    · split at hj
      · omega
      · exact absurd hj (ha b hi j)
    · split at hj
      · exact absurd hi (ha b hj i)
      · rw [List.getElem?_append_left (h.lt hi), List.getElem?_append_left (h.lt hj)]
        exact h.inj i j b hij hi hj
  bj := h.bj.add ha
  dom := fun i hi => by
    have hi : (c.h ++ [o]).length ≤ i := hi
    simp at hi
    show (if i = c.h.length then a else c.ρ i) = none
    rw [if_neg (by omega)]
    exact h.dom i (by omega)

/-- What of mine is left behind a call: all, and new things may be read. -/
def callC (c : Ctx) (n : Nat) (F : Fz) : Ctx := ⟨c.n0, fun b => if b < n then c.F b else F b, c.ρ, c.h, c.hs⟩

theorem callC_le (h : Ok F0 H0 c H) (F : Fz) : Le c (callC c H.length F) where
  n0 := rfl
  F := fun b B e => by show (if b < H.length then c.F b else F b) = _; rw [if_pos (h.below e)]; exact e
  hs := rfl
  len := Nat.le_refl _
  ρ := fun _ _ => rfl
  h := fun i o e => ⟨o, e, VO.le_refl o⟩

theorem Ok.called (h : Ok F0 H0 c H) {Fc : Fz} (k : Ok Fc H cc H') : Ok F0 H0 (callC c H.length cc.F) H' where
  n0 := h.n0
  pre := h.pre.trans k.pre
  fz := fun b B e => by
    have e : (if b < H.length then c.F b else cc.F b) = some B := e
    split at e
    · exact k.pre.blk (h.fz b B e)
    · exact k.fz b B e
  low := fun b hb => by
    show (if b < H.length then c.F b else cc.F b) = _
    rw [if_pos (Nat.lt_of_lt_of_le hb h.pre.len)]
    exact h.low b hb
  obj := fun i o hi => (h.obj i o hi).mono (callC_le h cc.F) rfl (fun b e => by
    show (if b < H.length then c.F b else cc.F b) = _
    rw [if_pos (h.blk e).2]) (fun b B _ hB => k.pre.blk hB) k.pre.len
  inj := h.inj
  bj := h.bj
  dom := h.dom

/-- While the results of a call are made mine. -/
structure Imp (n : Nat) (cc c1 : Ctx) (used : List Nat) : Prop where
  F : ∀ b, n ≤ b → c1.F b = cc.F b
  old : ∀ i b, c1.ρ i = some b → b < n ∨ ∃ j ∈ used, cc.ρ j = some b

theorem importL_sound {Fc : Fz} (k : Ok Fc H cc H') : ∀ {cs : List VV} {is : List Nat} {as : List Value}, XR cc cs is as → ∀ {c1 : Ctx} {used : List Nat}, Ok F0 H0 c1 H' → H0.length ≤ H.length → Imp H.length cc c1 used →
    (∀ j ∈ used, ∃ T x, cc.h[j]? = some (.lst true T x false)) → (used ++ is).Nodup → (cs.any isFz = true → cc.F.ext c1.F) →
    ∃ c2, Le c1 c2 ∧ c2.h = (importL cs c1.h).2 ∧ Ok F0 H0 c2 H' ∧ Imp H.length cc c2 (used ++ is) ∧ (∀ j ∈ used ++ is, ∃ T x, cc.h[j]? = some (.lst true T x false)) ∧ All2 (RL c2) (importL cs c1.h).1 as := by
  intro cs is as hx
  induction hx with
  | nil =>
    intro c1 used h1 hl hi hu hn hA
    exact ⟨c1, Le.refl c1, rfl, h1, by rw [List.append_nil]; exact hi, by rw [List.append_nil]; exact hu, .nil⟩
  | pl h t ih =>
    intro c1 used h1 hl hi hu hn hA
    obtain ⟨c2, k1, k2, k3, k4, k5, k6⟩ := ih h1 hl hi hu hn (fun e => hA (by rw [List.any_cons, e, Bool.or_true]))
    exact ⟨c2, k1, k2, k3, k4, k5, .cons ⟨rfl, h⟩ k6⟩
  | @al T x a l is as h t ih =>
    intro c1 used h1 hl hi hu hn hA
    have hF := hA rfl
    obtain ⟨c2, k1, k2, k3, k4, k5, k6⟩ := ih h1 hl hi hu hn (fun _ => hF)
    refine ⟨c2, k1, k2, k3, k4, k5, .cons ?_ k6⟩
    obtain ⟨ad, q, g1, g2⟩ := h
    have hext : (cutF false cc.n0 cc.F).ext (cutF false c2.n0 c2.F) := by
      intro b B hb
      have := k1.F _ _ (hF _ _ (cutF_le _ _ hb))
      unfold cutF
      rw [if_neg (by simp)]
      exact this
    exact ⟨ad, q, g1, g2.mono hext (RT.mono hext T)⟩
  | er h t ih =>
    intro c1 used h1 hl hi hu hn hA
    obtain ⟨c2, k1, k2, k3, k4, k5, k6⟩ := ih h1 hl hi hu hn (fun e => hA (by rw [List.any_cons, e, Bool.or_true]))
    exact ⟨c2, k1, k2, k3, k4, k5, .cons h k6⟩
  | @nw T x i l is as h t ih =>
    intro c1 used h1 hl hi hu hn hA
    have hkn := k.n0
    have okc := k.obj i _ h
    have hlst := okc.lst _ _ _ _ rfl
    have hi_not : i ∉ used := by
      intro hm
      rw [List.nodup_append] at hn
      exact hn.2.2 i hm i List.mem_cons_self rfl
    have hadd : Ok F0 H0 (addC c1 (cc.ρ i) (.lst true T x false)) H' := by
      refine h1.adopt _ _ (fun b hb j hj => ?_) ?_
      · rcases hi.old j b hj with hlt | ⟨j', hj1, hj2⟩
        · have := (k.blk hb).1; omega
        · obtain ⟨T', x', hj3⟩ := hu j' hj1
          rcases k.inj i j' b (fun e => hi_not (e ▸ hj1)) hb hj2 with e | e
          · rw [h] at e; cases e
          · rw [hj3] at e; cases e
      · exact {
          lo := fun b e => by
            rw [addC_ρ] at e
            have := k.blk e
            exact ⟨by show c1.n0 ≤ b; rw [h1.n0]; omega, this.2⟩
          box := fun _ _ e => (by cases e)
          lst := fun q T' x' fr e => by
            cases e
            rw [addC_ρ]
            refine ⟨hlst.1, fun b e => ?_⟩
            obtain ⟨as', ex, m1, m2, _, m4⟩ := hlst.2 b e
            refine ⟨as', ex, m1, m2.mono ?_, fun e => (by cases e), fun _ => ?_⟩
            · intro y Y hY
              unfold cutF at hY ⊢
              split at hY
              · cases hY
              · rename_i hh
                have hge : H.length ≤ y := by
                  rcases Nat.lt_or_ge y H.length with hlt | hge
                  · exact absurd ⟨rfl, by rw [hkn]; exact hlt⟩ hh
                  · exact hge
                rw [if_neg (by intro ⟨_, hh2⟩; have : (addC c1 (cc.ρ i) (.lst true T x false)).n0 = c1.n0 := rfl; rw [this, h1.n0] at hh2; omega)]
                show c1.F y = some Y
                rw [hi.F y hge]; exact hY
            · show c1.F b = none
              rw [hi.F b (by have := (k.blk e).1; omega)]
              exact m4 rfl
          dead := fun _ e => (by cases e) }
    have himp : Imp H.length cc (addC c1 (cc.ρ i) (.lst true T x false)) (used ++ [i]) := {
      F := hi.F
      old := fun j b e => by
        have e : (if j = c1.h.length then cc.ρ i else c1.ρ j) = some b := e
        split at e
        · exact .inr ⟨i, by simp, e⟩
        · rcases hi.old j b e with hlt | ⟨j', hj1, hj2⟩
          · exact .inl hlt
          · exact .inr ⟨j', List.mem_append_left _ hj1, hj2⟩ }
    obtain ⟨c2, k1, k2, k3, k4, k5, k6⟩ := ih hadd hl himp (by
      intro j hj
      rcases List.mem_append.1 hj with hj | hj
      · exact hu j hj
      · rw [List.mem_singleton.1 hj]; exact ⟨T, x, h⟩) (by rw [List.append_assoc]; exact hn) (fun e => hA (by rw [List.any_cons, e, Bool.or_true]))
    rw [List.append_assoc] at k4 k5
    refine ⟨c2, (addC_le _ _).trans k1, k2, k3, k4, k5, .cons ?_ k6⟩
    have := RL.mono k1 _ _ (show RL (addC c1 (cc.ρ i) (.lst true T x false)) (.own c1.h.length) (sl (cc.ρ i) x.length) from R2_topl rfl)
    exact this
  | @nl T l is as t ih =>
    intro c1 used h1 hl hi hu hn hA
    have hadd := h1.addNil true T (Pre.refl H')
    have himp : Imp H.length cc (addC c1 none (.lst true T [] false)) used := {
      F := hi.F
      old := fun j b e => by
        have e : (if j = c1.h.length then none else c1.ρ j) = some b := e
        split at e
        · cases e
        · exact hi.old j b e }
    obtain ⟨c2, k1, k2, k3, k4, k5, k6⟩ := ih hadd hl himp hu hn (fun e => hA (by rw [List.any_cons, e, Bool.or_true]))
    refine ⟨c2, (addC_le _ _).trans k1, k2, k3, k4, k5, .cons ?_ k6⟩
    exact RL.mono k1 _ _ (show RL (addC c1 none (.lst true T [] false)) (.own c1.h.length) (sl none 0) from R2_topl rfl)

theorem importS_sound {Fc : Fz} (k : Ok Fc H cc H') : ∀ {sl : List (Bool × List VV)} {is : List Nat} {vs : List Value}, XS cc sl is vs → ∀ {c1 : Ctx} {used : List Nat}, Ok F0 H0 c1 H' → H0.length ≤ H.length → Imp H.length cc c1 used →
    (∀ j ∈ used, ∃ T x, cc.h[j]? = some (.lst true T x false)) → (used ++ is).Nodup → (slotFz sl = true → cc.F.ext c1.F) →
    ∃ c2, Le c1 c2 ∧ c2.h = (importS sl c1.h).2 ∧ Ok F0 H0 c2 H' ∧ All2 (R1 c2) (importS sl c1.h).1 vs := by
  intro sl is vs hx
  induction hx with
  | nil =>
    intro c1 used h1 hl hi hu hn hA
    exact ⟨c1, Le.refl c1, rfl, h1, .nil⟩
  | @agg cs l is js as vs h t ih =>
    intro c1 used h1 hl hi hu hn hA
    rw [← List.append_assoc] at hn
    obtain ⟨c2, k1, k2, k3, k4, k5, k6⟩ := importL_sound k h h1 hl hi hu (List.nodup_append.1 hn).1 (fun e => hA (by unfold slotFz; rw [List.any_cons, e, Bool.true_or]))
    obtain ⟨c3, g1, g2, g3, g4⟩ := ih k3 hl k4 k5 hn (fun e => Fz.ext_trans (hA (by unfold slotFz at e ⊢; rw [List.any_cons, e, Bool.or_true])) k1.F)
    rw [k2] at g2 g4
    refine ⟨c3, k1.trans g1, ?_, g3, ?_⟩
    · simp only [importS]; exact g2
    · simp only [importS, if_true]
      exact .cons ⟨as, rfl, k6.mono (RL.mono g1)⟩ g4
  | @one x l is js a vs h t ih =>
    intro c1 used h1 hl hi hu hn hA
    rw [← List.append_assoc] at hn
    obtain ⟨c2, k1, k2, k3, k4, k5, k6⟩ := importL_sound k h h1 hl hi hu (List.nodup_append.1 hn).1 (fun e => hA (by unfold slotFz; rw [List.any_cons, e, Bool.true_or]))
    obtain ⟨c3, g1, g2, g3, g4⟩ := ih k3 hl k4 k5 hn (fun e => Fz.ext_trans (hA (by unfold slotFz at e ⊢; rw [List.any_cons, e, Bool.or_true])) k1.F)
    rw [k2] at g2 g4
    refine ⟨c3, k1.trans g1, ?_, g3, ?_⟩
    · simp only [importS]; exact g2
    · simp only [importS, Bool.false_eq_true, if_false]
      have hk := k6.mono (RL.mono g1)
      cases e : (importL [x] c1.h).1 with
      | nil => rw [e] at hk; cases hk
      | cons y ys =>
        rw [e] at hk
        cases hk with
        | cons hr _ =>
          refine .cons ?_ g4
          show R1 c3 y a
          cases y <;> first | exact hr | exact (show False from hr).elim

def isFr : VO → Bool
  | .box _ f => f
  | .lst _ _ _ f => f
  | .dead _ => true

theorem isFr_frozen (o : VO) : isFr (frozenO o) = true := by cases o <;> rfl

theorem getO_set (h : List VO) (i j : Nat) (o : VO) : getO (h.set i o) j = if i = j ∧ i < h.length then o else getO h j := by
  unfold getO
  rw [List.getD_eq_getElem?_getD, List.getD_eq_getElem?_getD]
  by_cases e : i = j
  · subst e
    by_cases hl : i < h.length
    · rw [List.getElem?_set_self hl, if_pos ⟨rfl, hl⟩]; rfl
    · rw [List.getElem?_eq_none (by simp; omega), List.getElem?_eq_none (by omega), if_neg (by omega)]
  · rw [List.getElem?_set_ne e, if_neg (fun h => e h.1)]

theorem freeze_keep : ∀ (is : List Nat) (h : List VO) {i : Nat}, isFr (getO h i) = true → isFr (getO (freeze h is) i) = true
  | [], h, i, e => e
  | j :: is, h, i, e => by
    unfold freeze
    refine freeze_keep is _ ?_
    rw [getO_set]
    split
    · exact isFr_frozen _
    · exact e

theorem freeze_fr : ∀ (is : List Nat) (h : List VO) {i : Nat}, i ∈ is → isFr (getO (freeze h is) i) = true
  | j :: is, h, i, hm => by
    unfold freeze
    rcases List.mem_cons.1 hm with rfl | hm
    · refine freeze_keep is _ ?_
      rw [getO_set]
      split
      · exact isFr_frozen _
      · rename_i hn
        unfold getO
        rw [List.getD_eq_getElem?_getD, List.getElem?_eq_none (by have : ¬ i < h.length := fun hl => hn ⟨rfl, hl⟩; omega)]; rfl
    · exact freeze_fr is _ hm

theorem freeze_box : ∀ (is : List Nat) (h : List VO) {i : Nat} {cs : List VV} {fr : Bool}, getO (freeze h is) i = .box cs fr → ∃ fr', getO h i = .box cs fr'
  | [], h, i, cs, fr, e => ⟨fr, e⟩
  | j :: is, h, i, cs, fr, e => by
    unfold freeze at e
    obtain ⟨fr', e⟩ := freeze_box is _ e
    rw [getO_set] at e
    split at e
    · rename_i hc
      rw [← hc.1]
      cases eo : getO h j with
      | box cs' f' => rw [eo] at e; cases e; exact ⟨f', rfl⟩
      | lst _ _ _ _ => rw [eo] at e; cases e
      | dead _ => rw [eo] at e; cases e
    · exact ⟨fr', e⟩

/-- Handed to a call, where it is read alone from now on. -/
theorem lendL_rel (hok : Ok F0 H0 c H) {hs : Nat → Value → Prop} {v : VV} {a : Value} (hf : ∀ i ∈ ownsL v, isFr (getO c.h i) = true) (h : RL c v a) : RL (ctxF c.F H hs) (lendL c.h v) a := by
  have hext : ∀ o, (cutF o c.n0 c.F).ext (cutF false (ctxF c.F H hs).n0 (ctxF c.F H hs).F) := by
    intro o b B hb
    have := cutF_le _ _ hb
    unfold cutF
    rw [if_neg (by simp)]
    exact this
  cases v with
  | pl v => exact h
  | fz o T l =>
    obtain ⟨ad, k, h1, h2⟩ := h
    exact ⟨ad, k, h1, h2.mono (hext o) (RT.mono (hext o) T)⟩
  | own i =>
    unfold lendL
    simp only
    split
    · rename_i q T l fr e
      have hfr := hf i (by simp [ownsL])
      rw [e] at hfr
      have hfr : fr = true := hfr
      have hi := getO_get e (by intro e; cases e)
      have ha : a = sl (c.ρ i) l.length := R2_own (c := c) h hi
      refine ⟨_, _, ha, ?_⟩
      have hlst := (hok.obj i _ hi).lst _ _ _ _ rfl
      cases hb : c.ρ i with
      | none =>
        have := hlst.1 hb
        subst this
        exact ⟨Nat.le_refl _, .inl rfl⟩
      | some b =>
        obtain ⟨as, ex, k1, k2, k3, _⟩ := hlst.2 b hb
        refine (k2.mono (hext q)).slice (b := b) (B := ⟨as, T.w, ex, true⟩) rfl ?_ (.inr rfl)
        unfold cutF
        rw [if_neg (by simp)]
        exact k3 hfr
    · trivial
  | _ => trivial

theorem RL_R1 {v : VV} {a : Value} (h : RL c v a) : R1 c v a := by
  cases v <;> first | exact h | exact (show False from h).elim

theorem R1_leaf {v : VV} {a : Value} (h1 : ∀ l, v ≠ .agg l) (h2 : ∀ l o, v ≠ .bx l o) (h3 : ∀ l, v ≠ .bs l) (h : R1 c v a) : RL c v a := by
  cases v <;> first | exact h | exact absurd rfl (h1 _) | exact absurd rfl (h2 _ _) | exact absurd rfl (h3 _)

theorem R2_flat {v : VV} {a : Value} (h1 : ∀ l, v ≠ .tup l) (h2 : ∀ f l, v ≠ .fn f l) (h : R2 c v a) : R1 c v a := by
  cases v <;> first | exact h | exact absurd rfl (h1 _) | exact absurd rfl (h2 _ _)

theorem all2_own {vs : List VV} {as : List Value} (hok : Ok F0 H0 c H) {hs : Nat → Value → Prop} (hf : ∀ i ∈ vs.flatMap ownsL, isFr (getO c.h i) = true) (h : All2 (RL c) vs as) : All2 (RL (ctxF c.F H hs)) (vs.map (lendL c.h)) as := by
  induction h with
  | nil => exact .nil
  | cons h t ih =>
    simp only [List.flatMap_cons, List.mem_append] at hf
    exact .cons (lendL_rel hok (fun i hi => hf i (.inl hi)) h) (ih fun i hi => hf i (.inr hi))

theorem lend1_rel (hok : Ok F0 H0 c H) {hs : Nat → Value → Prop} {v : VV} {a : Value} (hf : ∀ i ∈ lend1I c.h v, isFr (getO c.h i) = true) (h : R1 c v a) : R1 (ctxF c.F H hs) (lend1 c.h v) a := by
  cases v
  case agg l =>
    obtain ⟨as, h1, h2⟩ := h
    exact ⟨as, h1, all2_own hok hf h2⟩
  case bx l off =>
    obtain ⟨b, B, h1, h2, h3⟩ := h
    exact ⟨b, B, h1, h2, all2_own hok hf h3⟩
  case ptr i off =>
    obtain ⟨b, cs, fr, h1, h2, h3⟩ : RL c (.ptr i off) a := h
    simp only [lend1I, getO_of h1] at hf
    have hfr := hf i List.mem_cons_self
    rw [getO_of h1] at hfr
    have hfr : fr = true := hfr
    unfold lend1
    simp only [getO_of h1]
    obtain ⟨b', as, k1, k2, k3, k4, _⟩ := (hok.obj i _ h1).box _ _ rfl
    rw [h2] at k1; cases k1
    exact ⟨b, _, h3, k4 hfr, all2_own hok (fun j hj => hf j (List.mem_cons_of_mem _ hj)) k3⟩
  case bs l => trivial
  all_goals
    have hl := R1_leaf (fun _ e => by cases e) (fun _ _ e => by cases e) (fun _ e => by cases e) h
    refine RL_R1 (lendL_rel hok ?_ hl)
    exact hf

theorem R1_R2' {v : VV} {a : Value} (h : R1 c v a) : R2 c v a := R1_R2 h

theorem all2_1 {vs : List VV} {as : List Value} (hok : Ok F0 H0 c H) {hs : Nat → Value → Prop} (hf : ∀ i ∈ vs.flatMap (lend1I c.h), isFr (getO c.h i) = true) (h : All2 (R1 c) vs as) : All2 (R1 (ctxF c.F H hs)) (vs.map (lend1 c.h)) as := by
  induction h with
  | nil => exact .nil
  | cons h t ih =>
    simp only [List.flatMap_cons, List.mem_append] at hf
    exact .cons (lend1_rel hok (fun i hi => hf i (.inl hi)) h) (ih fun i hi => hf i (.inr hi))

theorem lend_rel (hok : Ok F0 H0 c H) {hs : Nat → Value → Prop} {v : VV} {a : Value} (hf : ∀ i ∈ lendI c.h v, isFr (getO c.h i) = true) (h : R2 c v a) : R2 (ctxF c.F H hs) (lend c.h v) a := by
  cases v
  case fn f l =>
    obtain ⟨as, h1, h2⟩ := h
    exact ⟨as, h1, all2_1 hok hf h2⟩
  case tup l => exact trivial
  all_goals
    have hl := R2_flat (fun _ e => by cases e) (fun _ _ e => by cases e) h
    refine R1_R2 (lend1_rel hok ?_ hl)
    exact hf

theorem all2_2 {vs : List VV} {as : List Value} (hok : Ok F0 H0 c H) {hs : Nat → Value → Prop} (hf : ∀ i ∈ vs.flatMap (lendI c.h), isFr (getO c.h i) = true) (h : All2 (R2 c) vs as) : All2 (R2 (ctxF c.F H hs)) (vs.map (lend c.h)) as := by
  induction h with
  | nil => exact .nil
  | cons h t ih =>
    simp only [List.flatMap_cons, List.mem_append] at hf
    exact .cons (lend_rel hok (fun i hi => hf i (.inl hi)) h) (ih fun i hi => hf i (.inr hi))

theorem freeze_or : ∀ (is : List Nat) (h : List VO) (i : Nat), getO (freeze h is) i = getO h i ∨ getO (freeze h is) i = frozenO (getO h i)
  | [], h, i => .inl rfl
  | j :: is, h, i => by
    have key : getO (h.set j (frozenO (getO h j))) i = getO h i ∨ getO (h.set j (frozenO (getO h j))) i = frozenO (getO h i) := by
      rw [getO_set]
      split
      · rename_i hc; rw [hc.1]; exact .inr rfl
      · exact .inl rfl
    unfold freeze
    rcases freeze_or is (h.set j (frozenO (getO h j))) i with e | e
    · rw [e]; exact key
    · rw [e]
      rcases key with k | k
      · rw [k]; exact .inr rfl
      · rw [k]; right; cases getO h i <;> rfl

theorem lendL_freeze (h : List VO) (is : List Nat) (v : VV) : lendL (freeze h is) v = lendL h v := by
  cases v with
  | own i =>
    unfold lendL
    simp only
    rcases freeze_or is h i with e | e
    · rw [e]
    · rw [e]; cases getO h i <;> rfl
  | _ => rfl
theorem lend1_freeze (h : List VO) (is : List Nat) (v : VV) : lend1 (freeze h is) v = lend1 h v := by
  have hL : lendL (freeze h is) = lendL h := funext (lendL_freeze h is)
  cases v with
  | ptr i off =>
    unfold lend1
    simp only [hL]
    rcases freeze_or is h i with e | e
    · rw [e]
    · rw [e]; cases getO h i <;> rfl
  | own i => exact lendL_freeze h is (.own i)
  | agg l => unfold lend1; simp only [hL]
  | bx l off => unfold lend1; simp only [hL]
  | _ => rfl
theorem lend_freeze (h : List VO) (is : List Nat) : lend (freeze h is) = lend h := by
  funext v
  have h1 : lend1 (freeze h is) = lend1 h := funext (lend1_freeze h is)
  cases v with
  | fn f l => unfold lend; simp only [h1]
  | own i => exact lend1_freeze h is (.own i)
  | ptr i off => exact lend1_freeze h is (.ptr i off)
  | agg l => exact lend1_freeze h is (.agg l)
  | bx l off => exact lend1_freeze h is (.bx l off)
  | _ => rfl

theorem lend1I_freeze (h : List VO) (is : List Nat) (v : VV) : ∀ i ∈ lend1I (freeze h is) v, i ∈ lend1I h v := by
  intro i hi
  cases v <;> try exact hi
  case ptr j off =>
    simp only [lend1I, List.mem_cons] at hi ⊢
    rcases hi with hi | hi
    · exact .inl hi
    · cases e : getO (freeze h is) j with
      | box cs fr =>
        obtain ⟨fr', e2⟩ := freeze_box is h e
        rw [e] at hi
        rw [e2]
        exact .inr hi
      | lst _ _ _ _ => rw [e] at hi; cases hi
      | dead _ => rw [e] at hi; cases hi

theorem lendI_freeze (h : List VO) (is : List Nat) (v : VV) : ∀ i ∈ lendI (freeze h is) v, i ∈ lendI h v := by
  intro i hi
  cases v
  case fn f l =>
    simp only [lendI, List.mem_flatMap] at hi ⊢
    obtain ⟨x, h1, h2⟩ := hi
    exact ⟨x, h1, lend1I_freeze h is x i h2⟩
  all_goals (simp only [lendI] at hi ⊢; exact lend1I_freeze h is _ i hi)

theorem wrapV_rel {vs : List VV} {as : List Value} (h : All2 (R1 c) vs as) : R2 c (wrapV vs) (wrap1 as) := by
  cases h with
  | nil => exact ⟨[], rfl, .nil⟩
  | cons h t =>
    cases t with
    | nil => exact R1_R2 h
    | cons h2 t2 => exact ⟨_, rfl, .cons h (.cons h2 t2)⟩

/-- A call, told by the table. -/
theorem vcall_sound (hO : ∀ f args Q, G.O f args Q → Sound G.P f args Q) (hok : Ok F0 H0 c H) {f : VV} {args : List VV} {fa : Value} {as : List Value} {K : VV → List VO → Prop} {flc : Nat} (hfl : flc ≤ H.length)
    (hf : R2 c f fa) (ha : All2 (R2 c) args as) (hv : vcall G f args c.h K) :
    ∃ g first cp, fa = .func (.func g) first cp ∧ goodFn G.P g = true ∧ WCall G.P flc g (first ++ as.toArray ++ cp) H fun v H' => ∃ v' c', K v' c'.h ∧ Le c c' ∧ Ok F0 H0 c' H' ∧ R2 c' v' v ∧ Pre H H' := by
  unfold vcall at hv
  split at hv
  · rename_i g caps
    split at hv
    · rename_i hg
      obtain ⟨cp, rfl, hcp⟩ := hf
      refine ⟨g, #[], cp.toArray, rfl, hg, ?_⟩
      obtain ⟨c1, k1, k2, _, _, k3, _⟩ := hok.freezes ((args ++ caps).flatMap (lendI c.h))
      have hall : All2 (R2 c1) (args ++ caps) (as ++ cp) := (ha.mono (R2.mono k1)).app (hcp.mono fun v a h => R2.mono k1 _ _ (R1_R2 h))
      have hfr : ∀ i ∈ (args ++ caps).flatMap (lendI c1.h), isFr (getO c1.h i) = true := by
        intro i hi
        rw [k2] at hi ⊢
        refine freeze_fr _ _ ?_
        simp only [List.mem_flatMap] at hi ⊢
        obtain ⟨x, h1, h2⟩ := hi
        exact ⟨x, h1, lendI_freeze _ _ _ i h2⟩
      have hargs : All2 (R2 (ctxF c1.F H noHs)) ((args ++ caps).map (lend c1.h)) (as ++ cp) := all2_2 k3 hfr hall
      rw [k2, lend_freeze, List.map_append] at hargs
      have := hO _ _ _ hv c1.F flc H _ k3.fz hfl hargs
      rw [show (#[] : Array Value) ++ as.toArray ++ cp.toArray = (as ++ cp).toArray by simp]
      refine WCall.mono this ?_
      rintro v H' ⟨sl, hK, ⟨cc, is, vs, q1, q2, q3, rfl⟩ | ⟨f', l, cc, rfl, q1, q2, q3⟩⟩
      case inr =>
        have hK : K (.fn f' l) (freeze c.h ((args ++ caps).flatMap (lendI c.h))) := hK
        rw [← k2] at hK
        refine ⟨.fn f' l, callC c1 H.length cc.F, hK, k1.trans (callC_le k3 cc.F), k3.called q1, ?_, q1.pre⟩
        obtain ⟨as', g1, g2⟩ := q3
        refine ⟨as', g1, roB_exts ?_ q2 g2⟩
        intro b B hb
        show (if b < H.length then c1.F b else cc.F b) = _
        split
        · rename_i hlt; rw [← q1.low b hlt]; exact hb
        · exact hb
      obtain ⟨sl, is, hK, q2, hsub⟩ := splitNz_sound q2 hK
      have q3 := List.Nodup.sublist hsub q3
      cases e : slotFz sl with
      | true =>
        rw [e] at hK
        simp only at hK
        rw [← k2] at hK
        have h1 := k3.called q1
        obtain ⟨c2, g1, g2, g3, g4⟩ := importS_sound q1 q2 (c1 := callC c1 H.length cc.F) (used := []) h1 k3.pre.len {
          F := fun b hb => by show (if b < H.length then c1.F b else cc.F b) = _; rw [if_neg (by omega)]
          old := fun i b e => .inl (k3.blk e).2 } (fun j hj => by cases hj) (by simpa using q3) (fun _ b B hb => by
            show (if b < H.length then c1.F b else cc.F b) = _
            split
            · rename_i hlt; rw [← q1.low b hlt]; exact hb
            · exact hb)
        refine ⟨_, c2, ?_, k1.trans ((callC_le k3 cc.F).trans g1), g3, wrapV_rel g4, q1.pre⟩
        rw [g2]; exact hK
      | false =>
        rw [e] at hK
        have h1 := hok.called q1
        obtain ⟨c2, g1, g2, g3, g4⟩ := importS_sound q1 q2 (c1 := callC c H.length cc.F) (used := []) h1 hok.pre.len {
          F := fun b hb => by show (if b < H.length then c.F b else cc.F b) = _; rw [if_neg (by omega)]
          old := fun i b e => .inl (hok.blk e).2 } (fun j hj => by cases hj) (by simpa using q3) (fun e2 => by rw [e] at e2; cases e2)
        refine ⟨_, c2, ?_, (callC_le hok cc.F).trans g1, g3, wrapV_rel g4, q1.pre⟩
        rw [g2]; exact hK
    · exact hv.elim
  · exact hv.elim

end
end Go.Mach
