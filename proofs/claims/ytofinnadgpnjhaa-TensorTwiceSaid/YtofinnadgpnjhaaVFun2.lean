/- States told by their shape; code; functions. Laws; no condition. -/
import Derived.Test.YtofinnadgpnjhaaVFun
namespace Go.Mach
set_option linter.unusedVariables false
set_option linter.unusedSimpArgs false

section
variable {G : Cfg} {F0 : Fz} {H0 : AHeap} {c c' : Ctx} {H H' : AHeap} {s : VS} {ta : Temps} {n fl : Nat} {ops : Array Oper}

/-! ### Cleaned -/

theorem reachF_nodup : ∀ (n : Nat) {h : List VO} {todo acc : List Nat}, acc.Nodup → (reachF n h todo acc).Nodup
  | 0, h, todo, acc, hn => hn
  | n + 1, h, [], acc, hn => hn
  | n + 1, h, i :: todo, acc, hn => by
    unfold reachF
    split
    · exact reachF_nodup n hn
    · rename_i hc
      refine reachF_nodup n ?_
      rw [List.nodup_append]
      refine ⟨hn, by simp, ?_⟩
      intro a ha b hb e
      rw [List.mem_singleton] at hb
      subst hb; subst e
      have : acc.contains a = true := by simpa using ha
      rw [this] at hc; cases hc

theorem indexOf_get : ∀ {ids : List Nat} {i n j : Nat}, indexOf' i ids n = some j → n ≤ j ∧ ids[j - n]? = some i
  | [], i, n, j, h => by cases h
  | x :: ids, i, n, j, h => by
    unfold indexOf' at h
    split at h
    · rename_i e; cases h; subst e; exact ⟨Nat.le_refl _, by simp⟩
    · obtain ⟨h1, h2⟩ := indexOf_get h
      refine ⟨by omega, ?_⟩
      rw [show j - n = (j - (n + 1)) + 1 by omega, List.getElem?_cons_succ]
      exact h2

def cleanC (c : Ctx) (ids : List Nat) : Ctx := ⟨c.n0, c.F, fun j => (ids[j]?).bind c.ρ, ids.map fun i => renO ids (getO c.h i), c.hs⟩

theorem clean_get {ids : List Nat} {i j : Nat} (h : indexOf' i ids 0 = some j) : (cleanC c ids).ρ j = c.ρ i ∧ (cleanC c ids).h[j]? = some (renO ids (getO c.h i)) := by
  have := (indexOf_get h).2
  rw [Nat.sub_zero] at this
  refine ⟨?_, ?_⟩
  · show (ids[j]?).bind c.ρ = _
    rw [this]; rfl
  · show (ids.map _)[j]? = _
    rw [List.getElem?_map, this]; rfl

theorem renL_rel (ids : List Nat) {v : VV} {a : Value} (h : RL c v a) : RL (cleanC c ids) (renL ids v) a := by
  cases v with
  | pl v => exact h
  | fz o t l => exact h
  | fptr o t l ix off => exact h
  | hof i => exact h
  | own i =>
    unfold renL
    simp only
    split
    · rename_i j hj
      obtain ⟨k1, k2⟩ := clean_get (c := c) hj
      simp only [RL] at h ⊢
      rw [k1, k2]
      cases hi : c.h[i]? with
      | none => rw [hi] at h; exact h.elim
      | some o =>
        rw [hi] at h
        rw [getO_of hi]
        cases o <;> exact h
    · trivial
  | ptr i off =>
    unfold renL
    simp only
    split
    · rename_i j hj
      obtain ⟨k1, k2⟩ := clean_get (c := c) hj
      obtain ⟨b, cs, fr, h1, h2, h3⟩ := h
      rw [getO_of h1] at k2
      exact ⟨b, _, fr, k2, k1.trans h2, h3⟩
    · trivial
  | eptr i ix off =>
    unfold renL
    simp only
    split
    · rename_i j hj
      obtain ⟨k1, k2⟩ := clean_get (c := c) hj
      obtain ⟨b, h1, h2⟩ := h
      refine ⟨b, k1.trans h1, ?_⟩
      rw [k2]
      cases hi : c.h[i]? with
      | none => rw [hi] at h2; exact h2.elim
      | some o =>
        rw [hi] at h2
        rw [getO_of hi]
        cases o <;> exact h2
    · trivial
  | undef => trivial
  | agg l => exact h.elim
  | tup l => exact h.elim
  | bx l off => exact h.elim
  | fn f l => exact h.elim
  | nw t l => exact h.elim

theorem ren1_rel (ids : List Nat) {v : VV} {a : Value} (h : R1 c v a) : R1 (cleanC c ids) (ren1 ids v) a := by
  cases v
  case agg l => obtain ⟨azz, h1, h2⟩ := h; exact ⟨azz, h1, h2.mapL fun v a h => renL_rel ids h⟩
  case bx l off => obtain ⟨b, B, h1, h2, h3⟩ := h; exact ⟨b, B, h1, h2, h3.mapL fun v a h => renL_rel ids h⟩
  all_goals exact RL_R1 (renL_rel ids (R1_leaf (fun _ e => by cases e) (fun _ _ e => by cases e) h))

theorem ren2_rel (ids : List Nat) {v : VV} {a : Value} (h : R2 c v a) : R2 (cleanC c ids) (ren2 ids v) a := by
  cases v
  case tup l => obtain ⟨azz, h1, h2⟩ := h; exact ⟨azz, h1, h2.mapL fun v a h => ren1_rel ids h⟩
  case fn f l => obtain ⟨azz, h1, h2⟩ := h; exact ⟨azz, h1, h2.mapL fun v a h => ren1_rel ids h⟩
  all_goals exact R1_R2 (ren1_rel ids (R2_flat (fun _ e => by cases e) (fun _ _ e => by cases e) h))

theorem Ok.clean (h : Ok F0 H0 c H) {ids : List Nat} (hn : ids.Nodup) : Ok F0 H0 (cleanC c ids) H where
  n0 := h.n0
  pre := h.pre
  fz := h.fz
  low := h.low
  obj := fun j o hj => by
    have hj : (ids.map fun i => renO ids (getO c.h i))[j]? = some o := hj
    rw [List.getElem?_map] at hj
    cases e : ids[j]? with
    | none => rw [e] at hj; cases hj
    | some i =>
      rw [e] at hj
      have hj : renO ids (getO c.h i) = o := by simpa using hj
      subst hj
      have hρ : (cleanC c ids).ρ j = c.ρ i := by show (ids[j]?).bind c.ρ = _; rw [e]; rfl
      cases hi : c.h[i]? with
      | none =>
        have hg : getO c.h i = .dead false := by unfold getO; rw [List.getD_eq_getElem?_getD, hi]; rfl
        have hnone : c.ρ i = none := h.dom i (List.getElem?_eq_none_iff.1 hi)
        rw [hg]
        exact {
          lo := fun b e => by rw [hρ, hnone] at e; cases e
          box := fun _ _ e => (by cases e)
          lst := fun _ _ _ _ e => (by cases e)
          dead := fun _ e => (by cases e) }
      | some o =>
        rw [getO_of hi]
        have ob := h.obj i o hi
        exact {
          lo := fun b e => ob.lo b (by rw [← hρ]; exact e)
          box := fun cs fr e => by
            cases o with
            | box cs' fr' =>
              cases e
              obtain ⟨b, azz, k1, k2, k3, k4⟩ := ob.box _ _ rfl
              exact ⟨b, azz, hρ.trans k1, k2, k3.mapL fun v a h => renL_rel ids h, k4⟩
            | lst _ _ _ _ => cases e
            | dead _ => cases e
          lst := fun q t l fr e => by
            cases o with
            | box cs' fr' => cases e
            | dead _ => cases e
            | lst q' t' l' fr' => rw [hρ]; exact ob.lst q t l fr e
          dead := fun b e e' => by
            cases o with
            | box cs' fr' => cases e
            | lst _ _ _ _ => cases e
            | dead x => exact ob.dead b e (by rw [← hρ]; exact e') }
  inj := fun i j b hij hi hj => by
    have hi : (ids[i]?).bind c.ρ = some b := hi
    have hj : (ids[j]?).bind c.ρ = some b := hj
    show (ids.map fun i => renO ids (getO c.h i))[i]? = _ ∨ (ids.map fun i => renO ids (getO c.h i))[j]? = _
    rw [List.getElem?_map, List.getElem?_map]
    cases e1 : ids[i]? with
    | none => rw [e1] at hi; cases hi
    | some x =>
      cases e2 : ids[j]? with
      | none => rw [e2] at hj; cases hj
      | some y =>
        rw [e1] at hi
        rw [e2] at hj
        have hxy : x ≠ y := by
          intro e
          subst e
          have h1 := List.getElem?_eq_some_iff.1 e1
          have h2 := List.getElem?_eq_some_iff.1 e2
          obtain ⟨l1, g1⟩ := h1
          obtain ⟨l2, g2⟩ := h2
          have hp := List.pairwise_iff_getElem.1 hn
          rcases Nat.lt_trichotomy i j with hlt | he | hlt
          · exact hp i j l1 l2 hlt (g1.trans g2.symm)
          · exact hij he
          · exact hp j i l2 l1 hlt (g2.trans g1.symm)
        rcases h.inj x y b hxy hi hj with e | e
        · left; simp only [Option.map_some, getO_of e]; rfl
        · right; simp only [Option.map_some, getO_of e]; rfl
  dom := fun j hj => by
    have hj : (ids.map fun i => renO ids (getO c.h i)).length ≤ j := hj
    rw [List.length_map] at hj
    show (ids[j]?).bind c.ρ = none
    rw [List.getElem?_eq_none_iff.2 hj]; rfl

theorem zipT_look {R : VV → Value → Prop} (hu : ∀ a, R .undef a) : ∀ (live : List Nat) (vs : List VV) {ta : Temps}, All2 R vs (live.map ta) → ∀ d, R (lookV (zipT live vs) d) (ta d)
  | [], vs, ta, h, d => by cases h; exact hu _
  | x :: live, [], ta, h, d => by cases h
  | x :: live, v :: vs, ta, h, d => by
    cases h with
    | cons h t =>
      show R (if x = d then v else lookV (zipT live vs) d) (ta d)
      split
      · rename_i e; subst e; exact h
      · exact zipT_look hu live vs t d

theorem mapv_rel {R : VV → Value → Prop} {f : Nat → VV} {ta : Temps} (h : ∀ d, R (f d) (ta d)) : ∀ live : List Nat, All2 R (live.map f) (live.map ta)
  | [] => .nil
  | x :: l => .cons (h x) (mapv_rel h l)

/-- The state cleaned stands for the same. -/
theorem clean_sound (hr : Rel F0 H0 c s ta H) (live : List Nat) : ∃ c', c'.hs = c.hs ∧ c'.n0 = c.n0 ∧ c'.h = (cleanV live s).2 ∧ Ok F0 H0 c' H ∧ All2 (R2 c') (cleanV live s).1 (live.map ta) := by
  obtain ⟨hh, hok, ht⟩ := hr
  have hn := reachF_nodup (2 * s.h.length + 40) (h := s.h) (todo := (live.map (lookV s.t)).flatMap ids2) (acc := []) List.nodup_nil
  refine ⟨cleanC c (reachF (2 * s.h.length + 40) s.h ((live.map (lookV s.t)).flatMap ids2) []), rfl, rfl, ?_, hok.clean hn, ?_⟩
  · show (List.map _ _) = _
    rw [hh]; rfl
  · show All2 _ ((live.map (lookV s.t)).map _) _
    rw [List.map_map]
    exact mapv_rel (fun d => ren2_rel _ (ht d)) live

/-! ### Shapes -/

theorem sameL_eq {a b : VV} (h : sameL a b = true) : a = b := by
  unfold sameL at h
  split at h <;> first
    | (simp only [Bool.and_eq_true, beq_iff_eq, decide_eq_true_eq] at h; first | (obtain ⟨rfl, rfl⟩ := h; rfl) | (subst h; rfl))
    | rfl
    | cases h
theorem sameLs_eq : ∀ {a b : List VV}, sameLs a b = true → a = b
  | [], [], _ => rfl
  | [], _ :: _, h => by cases h
  | _ :: _, [], h => by cases h
  | a :: l, b :: r, h => by
    unfold sameLs at h
    simp only [Bool.and_eq_true] at h
    rw [sameL_eq h.1, sameLs_eq h.2]
theorem sameV_eq {a b : VV} (h : sameV a b = true) : a = b := by
  unfold sameV at h
  split at h
  · simp only [Bool.and_eq_true, beq_iff_eq] at h
    rw [h.1, sameLs_eq h.2]
  · exact sameL_eq h

theorem unF_sound {x : Lf} {v : VV} {K : x.den → Prop} (h : unF x v K) : ∃ d, v = packF x d ∧ K d := by
  unfold unF at h
  split at h
  · split at h
    · split at h
      · rename_i e; subst e; exact ⟨_, rfl, h⟩
      · exact h.elim
    · exact h.elim
  · split at h
    · exact ⟨_, rfl, h⟩
    · exact h.elim
  · split at h
    · exact ⟨_, rfl, h⟩
    · exact h.elim
  · split at h
    · split at h
      · rename_i e
        subst e
        obtain ⟨e, h⟩ := Ty.at_inv h
        subst e
        exact ⟨_, rfl, h⟩
      · exact h.elim
    · exact h.elim
  · split at h
    · rename_i e; exact ⟨(), (sameV_eq e).symm, h⟩
    · exact h.elim
theorem unL_sound : ∀ {l : List Lf} {vs : List VV} {K : denL l → Prop}, unL l vs K → ∃ d, vs = packL l d ∧ K d
  | [], vs, K, h => by
    unfold unL at h
    split at h
    · exact ⟨(), rfl, h⟩
    · exact h.elim
  | x :: l, vs, K, h => by
    unfold unL at h
    split at h
    · obtain ⟨a, rfl, h1⟩ := unF_sound h
      obtain ⟨b, rfl, h2⟩ := unL_sound h1
      exact ⟨(a, b), rfl, h2⟩
    · exact h.elim
theorem unSh_sound {x : Sh} {v : VV} {K : x.den → Prop} (h : unSh x v K) : ∃ d, v = packSh x d ∧ K d := by
  unfold unSh at h
  split at h
  · exact unF_sound h
  · split at h
    · obtain ⟨d, rfl, h1⟩ := unL_sound h; exact ⟨d, rfl, h1⟩
    · exact h.elim
  · split at h
    · obtain ⟨d, rfl, h1⟩ := unL_sound h; exact ⟨d, rfl, h1⟩
    · exact h.elim
theorem unS_sound : ∀ {l : List Sh} {vs : List VV} {K : denS l → Prop}, unS l vs K → ∃ d, vs = packS l d ∧ K d
  | [], vs, K, h => by
    unfold unS at h
    split at h
    · exact ⟨(), rfl, h⟩
    · exact h.elim
  | x :: l, vs, K, h => by
    unfold unS at h
    split at h
    · obtain ⟨a, rfl, h1⟩ := unSh_sound h
      obtain ⟨b, rfl, h2⟩ := unS_sound h1
      exact ⟨(a, b), rfl, h2⟩
    · exact h.elim
theorem unOb_sound {x : OSh} {v : VO} {K : x.den → Prop} (h : unOb x v K) : ∃ d, v = packOb x d ∧ K d := by
  unfold unOb at h
  split at h
  · split at h
    · split at h
      · rename_i e; subst e; obtain ⟨d, rfl, h1⟩ := unL_sound h; exact ⟨d, rfl, h1⟩
      · exact h.elim
    · exact h.elim
  · split at h
    · split at h
      · rename_i e
        obtain ⟨rfl, rfl⟩ := e
        obtain ⟨e, h⟩ := Ty.at_inv h
        subst e
        exact ⟨_, rfl, h⟩
      · exact h.elim
    · exact h.elim
  · split at h
    · exact ⟨(), rfl, h⟩
    · exact h.elim
theorem unO_sound : ∀ {l : List OSh} {vs : List VO} {K : denO l → Prop}, unO l vs K → ∃ d, vs = packO l d ∧ K d
  | [], vs, K, h => by
    unfold unO at h
    split at h
    · exact ⟨(), rfl, h⟩
    · exact h.elim
  | x :: l, vs, K, h => by
    unfold unO at h
    split at h
    · obtain ⟨a, rfl, h1⟩ := unOb_sound h
      obtain ⟨b, rfl, h2⟩ := unO_sound h1
      exact ⟨(a, b), rfl, h2⟩
    · exact h.elim

/-- Some context. -/
def RelE (F0 : Fz) (H0 : AHeap) (hs : Nat → Value → Prop) (s : VS) (ta : Temps) (H : AHeap) : Prop := ∃ c, c.hs = hs ∧ Rel F0 H0 c s ta H

theorem tidy_sound {hs : Nat → Value → Prop} (hr : RelE F0 H0 hs s ta H) (live : List Nat) : RelE F0 H0 hs (tidy live s) ta H := by
  obtain ⟨c, hc, hr⟩ := hr
  obtain ⟨c', h1, h2, h3, h4, h5⟩ := clean_sound hr live
  exact ⟨c', h1.trans hc, h3, h4, zipT_look (fun _ => trivial) live _ h5⟩
theorem frz_conv {i : Nat} {q : Bool} {T : Ty} {l : List T.den} {fr : Bool} {a : Value} (hok : Ok F0 H0 c H) (hi : getO c.h i = .lst q T l fr) (hr : RL c (.own i) a) :
    ∃ c', Le c c' ∧ c'.hs = c.hs ∧ c'.h = freeze c.h [i] ∧ Ok F0 H0 c' H ∧ RL c' (.fz q T l) a := by
  obtain ⟨c1, k1, k2, kn, kρ, k3, k4⟩ := hok.freezes [i]
  refine ⟨c1, k1, k1.hs, k2, k3, ?_⟩
  have hl : RL c1 (resolve c.h (.own i)) a := resolve_rel hok k1 kρ hr fun j hj => k4 j (by simpa [ownsL] using hj)
  have hres : resolve c.h (.own i) = .fz q T l := by unfold resolve; simp only [hi]
  rw [hres] at hl
  exact hl

theorem vconv_sound {fz : Bool} {T : Ty} {v v' : VV} {h' : List VO} {a : Value} (hok : Ok F0 H0 c H) (hr : RL c v a) (hc : conv fz T c.h v = some (v', h')) : ∃ c', Le c c' ∧ c'.h = h' ∧ Ok F0 H0 c' H ∧ RL c' v' a := by
  unfold conv at hc
  split at hc
  · cases hc
    obtain ⟨rfl, _⟩ := hr
    exact ⟨_, addC_le _ _, rfl, hok.addNil true T (Pre.refl H), R2_topl (c := c) (a := none) (q := true) (l := ([] : List T.den)) rfl⟩
  · cases hc
    obtain ⟨rfl, _⟩ := hr
    exact ⟨c, Le.refl c, rfl, hok, none, _, rfl, ⟨Nat.zero_le _, .inl rfl⟩⟩
  · split at hc
    · rename_i hg
      cases hc
      obtain ⟨c', h1, h2, h3, h4, h5⟩ := frz_conv hok hg hr
      exact ⟨c', h1, h3, h4, h5⟩
    · cases hc
  · cases hc

theorem R2_RL {v : VV} {a : Value} {fz : Bool} {T : Ty} {h : List VO} {r : VV × List VO} (hc : conv fz T h v = some r) (hr : R2 c v a) : RL c v a := by
  unfold conv at hc
  split at hc
  · exact hr
  · exact hr
  · exact hr
  · cases hc

theorem conv_get {fz : Bool} {T : Ty} {h h' : List VO} {v v' : VV} (hc : conv fz T h v = some (v', h')) {i : Nat} {cs : List VV} {fr : Bool} (hi : h[i]? = some (.box cs fr)) (hv : ∀ j, v = .own j → j ≠ i) : h'[i]? = some (.box cs fr) := by
  unfold conv at hc
  split at hc
  · cases hc; rw [List.getElem?_append_left (ltl_of_get hi)]; exact hi
  · cases hc; exact hi
  · rename_i j
    split at hc
    · cases hc
      show (h.set j (frozenO (getO h j)))[i]? = _
      rw [List.getElem?_set_ne (hv j rfl)]; exact hi
    · cases hc
  · cases hc

theorem co1_sound {hs : Nat → Value → Prop} (co : Co) (hr : RelE F0 H0 hs s ta H) : RelE F0 H0 hs (co1 s co) ta H := by
  obtain ⟨c, hc, hh, hok, ht⟩ := hr
  unfold co1
  split
  · split
    · rename_i v h' hcv
      rw [← hh] at hcv
      have hd := ht co.d
      obtain ⟨c', h1, h2, h3, h4⟩ := vconv_sound hok (R2_RL hcv hd) hcv
      refine ⟨c', h1.hs.trans hc, h2, h3, ?_⟩
      intro i
      show R2 c' (if co.d = i then v else lookV s.t i) _
      split
      · rename_i e; subst e; exact R1_R2 (RL_R1 h4)
      · exact R2.mono h1 _ _ (ht i)
    · exact ⟨c, hc, hh, hok, ht⟩
  · rename_i q hq
    split
    · rename_i i off hl
      split
      · rename_i cs fr hg
        split
        · rename_i u hu
          split
          · rename_i v h' hcv
            rw [← hh] at hcv hg
            have hi := getO_get hg (by intro e; cases e)
            obtain ⟨b, azz, k1, k2, k3, k4, k5⟩ := (hok.obj i _ hi).box _ _ rfl
            obtain ⟨a, m1, m2⟩ := k3.get hu
            obtain ⟨c', h1, h2, h3, h4⟩ := vconv_sound hok m2 hcv
            have hi' : c'.h[i]? = some (.box cs fr) := by
              rw [h2]
              refine conv_get hcv hi fun j e => ?_
              intro e2
              subst e; subst e2
              simp only [RL, hi] at m2
            have hle : Le c' (setC c' i (.box (cs.set q v) fr)) := setC_le hi' trivial
            have ob := h3.obj i _ hi'
            obtain ⟨b', as', n1, n2, n3, n4, n5⟩ := ob.box _ _ rfl
            have hbb : b' = b := by
              rw [h1.ρ i (ltl_of_get hi), k1] at n1
              exact (Option.some.inj n1).symm
            subst hbb
            rw [k2] at n2
            cases n2
            refine ⟨setC c' i (.box (cs.set q v) fr), hle.hs.trans (h1.hs.trans hc), ?_, ?_, ?_⟩
            · show c'.h.set i _ = _; rw [h2]
            · exact {
                n0 := h3.n0, pre := h3.pre, fz := h3.fz, low := h3.low
                obj := fun j p hj => by
                  rcases setC_get hj with ⟨rfl, rfl⟩ | ⟨hne, hj'⟩
                  · exact {
                      lo := fun b e => ob.lo b e
                      box := fun cs2 fr2 e => by
                        cases e
                        refine ⟨b', azz, n1, k2, ?_, n4, n5⟩
                        have hset : azz.set q a = azz := by
                          apply List.ext_getElem?
                          intro x
                          by_cases hx : q = x
                          · subst hx; rw [List.getElem?_set_self (ltl_of_get m1), m1]
                          · rw [List.getElem?_set_ne hx]
                        have := (n3.mono (RL.mono hle)).set q (RL.mono hle _ _ h4)
                        rw [hset] at this
                        exact this
                      lst := fun _ _ _ _ e => (by cases e)
                      dead := fun _ e => (by cases e) }
                  · exact (h3.obj j p hj').mono hle rfl (fun _ _ => rfl) (fun _ _ _ hB => hB) (Nat.le_refl _)
                inj := fun j k b' hjk hj hk => by
                  show (c'.h.set i _)[j]? = _ ∨ (c'.h.set i _)[k]? = _
                  rcases h3.inj j k b' hjk hj hk with e | e
                  · left
                    by_cases hji : i = j
                    · subst hji; rw [hi'] at e; cases e
                    · rw [List.getElem?_set_ne hji]; exact e
                  · right
                    by_cases hki : i = k
                    · subst hki; rw [hi'] at e; cases e
                    · rw [List.getElem?_set_ne hki]; exact e
                dom := fun j hj => h3.dom j (by have : (c'.h.set i (.box (cs.set q v) fr)).length ≤ j := hj; simpa using this) }
            · exact fun d => R2.mono (h1.trans hle) _ _ (ht d)
          · exact ⟨c, hc, hh, hok, ht⟩
        · exact ⟨c, hc, hh, hok, ht⟩
      · exact ⟨c, hc, hh, hok, ht⟩
    · exact ⟨c, hc, hh, hok, ht⟩

theorem coAll_sound {hs : Nat → Value → Prop} : ∀ (cs : List Co) {s : VS}, RelE F0 H0 hs s ta H → RelE F0 H0 hs (coAll cs s) ta H
  | [], s, h => h
  | c :: cs, s, h => coAll_sound cs (co1_sound c h)

theorem tidyE_sound {hs : Nat → Value → Prop} (hr : RelE F0 H0 hs s ta H) (en : Ends) (m : Nat) : RelE F0 H0 hs (tidyE en m s) ta H := by
  unfold tidyE
  split
  · exact tidy_sound (coAll_sound _ hr) _
  · exact hr

theorem toSh_sound {hs : Nat → Value → Prop} {live : List Nat} {sh : List Sh} {ob : List OSh} {K : denS sh × denO ob → Prop} (hr : RelE F0 H0 hs s ta H) (h : toSh live sh ob s K) : ∃ x, K x ∧ RelE F0 H0 hs (stOf live sh ob x) ta H := by
  obtain ⟨c, hc, hr⟩ := hr
  obtain ⟨c', h1, h2, h3, h4, h5⟩ := clean_sound hr live
  unfold toSh at h
  obtain ⟨a, e1, h⟩ := unS_sound h
  obtain ⟨b, e2, h⟩ := unO_sound h
  refine ⟨(a, b), h, c', h1.trans hc, ?_, h4, ?_⟩
  · rw [h3, e2]; rfl
  · rw [e1] at h5
    exact zipT_look (fun _ => trivial) live _ h5

/-! ### Code -/

/-- The node of a text. -/
def subC : Nat → Code → Nat → Option Code
  | 0, _, _ => none
  | f + 1, root, n => if n ≤ 1 then some root else
    match subC f root (n / 2) with
    | some (.seq a b) => if n % 2 = 0 then some a else some b
    | some (.cond _ x y) => if n % 2 = 0 then some x else some y
    | some (.block _ b) => some b
    | some (.loop b) => some b
    | _ => none

theorem subC_det {root : Code} : ∀ {f f' n : Nat} {c c' : Code}, subC f root n = some c → subC f' root n = some c' → c = c' := by
  intro f
  induction f with
  | zero => intro f' n c c' h; cases h
  | succ f ih =>
    intro f' n c c' h h'
    cases f' with
    | zero => cases h'
    | succ f' =>
      unfold subC at h h'
      by_cases hn : n ≤ 1
      · rw [if_pos hn] at h h'; cases h; cases h'; rfl
      · rw [if_neg hn] at h h'
        cases e : subC f root (n / 2) with
        | none => rw [e] at h; cases h
        | some d =>
          cases e' : subC f' root (n / 2) with
          | none => rw [e'] at h'; cases h'
          | some d' =>
            have := ih e e'
            subst this
            rw [e] at h
            rw [e'] at h'
            rw [h] at h'
            exact Option.some.inj h'

theorem W_unroll {P : Program} {x : Code} {t : Temps} {Q : AExit → Temps → AHeap → Prop} (h : W P fl x t H fun e t1 H1 => match e with
    | .normal => W P fl (.loop x) t1 H1 Q
    | e => Q e t1 H1) : W P fl (.loop x) t H Q := by
  obtain ⟨N, e, t1, H1, h1, h2⟩ := h
  cases e with
  | normal =>
    obtain ⟨M, e2, t2, H2, h3, h4⟩ := h2
    simp only [exec] at h3
    refine ⟨max N M + 1, e2, t2, H2, ?_, h4⟩
    simp only [exec, loopN]
    rw [exec_mono (callN_mono P (show N ≤ max N M + 1 by omega)) (show N ≤ max N M + 1 by omega) _ _ _ _ h1]
    exact loopN_mono (exec_mono (callN_mono P (show M ≤ max N M + 1 by omega)) (show M ≤ max N M + 1 by omega) x) (show M ≤ max N M by omega) _ _ _ h3
  | _ =>
    refine ⟨N + 1, _, t1, H1, ?_, h2⟩
    simp only [exec, loopN]
    rw [exec_mono (callN_mono P (Nat.le_succ N)) (Nat.le_succ N) _ _ _ _ h1]

/-- What the tables of a text must be. -/
def TabOk (G : Cfg) (ct : Tab) (en : Ends) (root : Code) : Prop :=
  ∀ n E, ct n = some E → ∀ f c, subC f root n = some c → ∀ x k, E.P x k → vwp G ct en c n (stOf E.live E.sh E.ob x) k

theorem sub_kids {root a b : Code} {f m : Nat} (hm : 1 ≤ m) (h : subC f root m = some (.seq a b)) : subC (f + 1) root (2 * m) = some a ∧ subC (f + 1) root (2 * m + 1) = some b := by
  constructor
  · unfold subC
    rw [if_neg (by omega), show 2 * m / 2 = m by omega, h]
    simp
  · unfold subC
    rw [if_neg (by omega), show (2 * m + 1) / 2 = m by omega, h]
    simp only []
    rw [if_neg (by omega)]
theorem sub_kidsc {root a b : Code} {o : Operand} {f m : Nat} (hm : 1 ≤ m) (h : subC f root m = some (.cond o a b)) : subC (f + 1) root (2 * m) = some a ∧ subC (f + 1) root (2 * m + 1) = some b := by
  constructor
  · unfold subC
    rw [if_neg (by omega), show 2 * m / 2 = m by omega, h]
    simp
  · unfold subC
    rw [if_neg (by omega), show (2 * m + 1) / 2 = m by omega, h]
    simp only []
    rw [if_neg (by omega)]
theorem sub_kid {root b : Code} {f m : Nat} (hm : 1 ≤ m) (h : (∃ id, subC f root m = some (.block id b)) ∨ subC f root m = some (.loop b)) : subC (f + 1) root (2 * m) = some b := by
  unfold subC
  rw [if_neg (by omega), show 2 * m / 2 = m by omega]
  rcases h with ⟨id, h⟩ | h <;> rw [h]

/-- What holds for the whole of a text. -/
structure EnvF (G : Cfg) (H0 : AHeap) (hs : Nat → Value → Prop) (fl : Nat) : Prop where
  O : ∀ f args Q, G.O f args Q → Sound G.P f args Q
  Γ : HsOk G H0 hs
  fl : fl ≤ H0.length

theorem vwp_sound {hs : Nat → Value → Prop} {ct : Tab} {en : Ends} {root : Code} (he : EnvF G H0 hs fl) (htab : TabOk G ct en root) : ∀ (c : Code) (m : Nat) {s : VS} {k : AExit → VS → Prop} {ta : Temps} {H : AHeap} {Q : AExit → Temps → AHeap → Prop}, 1 ≤ m → (∃ f, subC f root m = some c) → codeOk n c = true →
    RelE F0 H0 hs s ta H → vwp G ct en c m s k → (∀ e s' ta' H', RelE F0 H0 hs s' ta' H' → k e s' → Q e ta' H') → W G.P fl c ta H Q := by
  intro c
  -- at a node that may be told by its shape
  have cut : ∀ (x : Code) (m : Nat) {s : VS} {k : AExit → VS → Prop} {ta : Temps} {H : AHeap}, (∃ f, subC f root m = some x) → RelE F0 H0 hs s ta H → cutE ct m (vwp G ct en x m) s k → ∃ s', RelE F0 H0 hs s' ta H ∧ vwp G ct en x m s' k := by
    intro x m s k ta H hsub hr h
    unfold cutE at h
    split at h
    · rename_i E hE
      obtain ⟨y, h1, h2⟩ := toSh_sound hr h
      obtain ⟨f, hf⟩ := hsub
      exact ⟨_, h2, htab m E hE f x hf y k h1⟩
    · exact ⟨s, hr, h⟩
  induction c with
  | skip =>
    intro m s k ta H Q hm hsub hco hr hv hQ
    exact W_skip (hQ _ _ _ _ (tidyE_sound hr en m) hv)
  | label l =>
    intro m s k ta H Q hm hsub hco hr hv hQ
    exact W_label (hQ _ _ _ _ (tidyE_sound hr en m) hv)
  | exit id =>
    intro m s k ta H Q hm hsub hco hr hv hQ
    exact W_exit (hQ _ _ _ _ (tidyE_sound hr en m) hv)
  | ret =>
    intro m s k ta H Q hm hsub hco hr hv hQ
    exact W_ret (hQ _ _ _ _ (tidyE_sound hr en m) hv)
  | region id ops draw =>
    intro m s k ta H Q hm hsub hco hr hv hQ
    obtain ⟨c, hc, hr⟩ := hr
    have hop : ∀ o ∈ ops.toList, opOk n ops o = true := by
      unfold codeOk at hco
      exact fun o ho => List.all_eq_true.1 hco o ho
    refine vregion_sound (n := n) ⟨he.O, by rw [hc]; exact he.Γ, he.fl⟩ hr hop hv ?_
    rintro ta' H' ⟨s', c', hle, hr', hk⟩
    exact hQ _ _ _ _ (tidyE_sound ⟨c', hle.hs.trans hc, hr'⟩ en m) hk
  | seq a b iha ihb =>
    intro m s k ta H Q hm hsub hco hr hv hQ
    obtain ⟨f, hf⟩ := hsub
    obtain ⟨ka, kb⟩ := sub_kids hm hf
    simp only [codeOk, Bool.and_eq_true] at hco
    obtain ⟨s1, hr1, hv1⟩ := cut a (2 * m) ⟨_, ka⟩ hr hv
    refine W_seq (iha (2 * m) (by omega) ⟨_, ka⟩ hco.1 hr1 hv1 ?_)
    intro e s' ta' H' hr' hk
    cases e with
    | normal =>
      obtain ⟨s2, hr2, hv2⟩ := cut b (2 * m + 1) ⟨_, kb⟩ hr' hk
      exact ihb (2 * m + 1) (by omega) ⟨_, kb⟩ hco.2 hr2 hv2 hQ
    | _ => exact hQ _ _ _ _ hr' hk
  | cond o x y ihx ihy =>
    intro m s k ta H Q hm hsub hco hr hv hQ
    obtain ⟨f, hf⟩ := hsub
    obtain ⟨kx, ky⟩ := sub_kidsc hm hf
    simp only [codeOk, Bool.and_eq_true] at hco
    have hv : (match evV s.t o with
      | .pl (.bool b) => if b = true then cutE ct (2 * m) (vwp G ct en x (2 * m)) s k else cutE ct (2 * m + 1) (vwp G ct en y (2 * m + 1)) s k
      | _ => False) := hv
    obtain ⟨c, hc, hrc⟩ := hr
    have hev := ev_rel hrc.2.2 hco.1.1
    split at hv
    · rename_i b heq
      rw [heq] at hev
      refine W_cond (R2_pl hev).1 (fun hb => ?_) (fun hb => ?_)
      · rw [if_pos hb] at hv
        obtain ⟨s1, hr1, hv1⟩ := cut x (2 * m) ⟨_, kx⟩ ⟨c, hc, hrc⟩ hv
        exact ihx (2 * m) (by omega) ⟨_, kx⟩ hco.1.2 hr1 hv1 hQ
      · rw [if_neg (by rw [hb]; simp)] at hv
        obtain ⟨s1, hr1, hv1⟩ := cut y (2 * m + 1) ⟨_, ky⟩ ⟨c, hc, hrc⟩ hv
        exact ihy (2 * m + 1) (by omega) ⟨_, ky⟩ hco.2 hr1 hv1 hQ
    · exact hv.elim
  | block id b ih =>
    intro m s k ta H Q hm hsub hco hr hv hQ
    obtain ⟨f, hf⟩ := hsub
    have kb := sub_kid (b := b) hm (.inl ⟨id, hf⟩)
    obtain ⟨s1, hr1, hv1⟩ := cut b (2 * m) ⟨_, kb⟩ hr hv
    refine W_block (ih (2 * m) (by omega) ⟨_, kb⟩ hco hr1 hv1 ?_)
    intro e s' ta' H' hr' hk
    cases e with
    | exit id' => exact hQ _ _ _ _ hr' hk
    | _ => exact hQ _ _ _ _ hr' hk
  | loop b ih =>
    intro m s k ta H Q hm hsub hco hr hv hQ
    obtain ⟨f, hf⟩ := hsub
    have kb := sub_kid (b := b) hm (.inr hf)
    have hv : Loop (LB k en m (cutE ct (2 * m) (vwp G ct en b (2 * m)))) (tidyE en m s) := hv
    refine hv (fun s => ∀ ta H, RelE F0 H0 hs s ta H → W G.P fl (.loop b) ta H Q) ?_ ta H (tidyE_sound hr en m)
    intro s hB ta H hr
    refine W_unroll ?_
    obtain ⟨s1, hr1, hv1⟩ := cut b (2 * m) ⟨_, kb⟩ hr hB
    refine ih (2 * m) (by omega) ⟨_, kb⟩ hco hr1 hv1 ?_
    intro e s' ta' H' hr' hk
    cases e with
    | normal => exact hk ta' H' (tidyE_sound hr' en m)
    | _ => exact hQ _ _ _ _ hr' hk
  | rangeFunc f ps a b _ _ => intro m s k ta H Q hm hsub hco; simp [codeOk] at hco
  | scope b _ => intro m s k ta H Q hm hsub hco; simp [codeOk] at hco
  | goto l => intro m s k ta H Q hm hsub hco; simp [codeOk] at hco
  | refuse w => intro m s k ta H Q hm hsub hco; simp [codeOk] at hco

end
end Go.Mach
