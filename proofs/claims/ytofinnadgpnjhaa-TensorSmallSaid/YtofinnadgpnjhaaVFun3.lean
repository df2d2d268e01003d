/- Functions: what the value machine tells of one, the machine does. Laws; no condition. -/
import Derived.Test.YtofinnadgpnjhaaVFun2
namespace Go.Mach
set_option linter.unusedVariables false
set_option linter.unusedSimpArgs false

section
variable {G : Cfg} {F0 : Fz} {H0 : AHeap} {c c' : Ctx} {H H' : AHeap} {s : VS} {ta : Temps} {n fl : Nat} {ops : Array Oper}

theorem vres_sound (hr : Rel F0 H0 c s ta H) : ∀ {rs : List ResultVar} {K : List VV → Prop}, vres G s rs K → ∃ vs azz, K vs ∧ All2 (R2 c) vs azz ∧ resultAll G.P ta H rs = some azz
  | [], K, h => ⟨[], [], h, .nil, rfl⟩
  | .tmp d :: rs, K, h => by
    obtain ⟨vs, azz, h1, h2, h3⟩ := vres_sound hr (rs := rs) h
    exact ⟨_, _, h1, .cons (hr.2.2 d) h2, by simp only [resultAll, resultOne, h3]⟩
  | .cell d ty :: rs, K, h => by
    unfold vres at h
    split at h
    · rename_i i off he
      split at h
      · rename_i cs fr hg
        have hd := hr.2.2 d
        rw [he] at hd
        obtain ⟨b, cs', fr', k1, k2, k3⟩ := R2_ptr hd
        have hi := getO_get hg (by intro e; cases e)
        rw [hr.1, hi] at k1; cases k1
        obtain ⟨b', azz, m1, m2, m3, _⟩ := (hr.2.1.obj i _ (by rw [hr.1]; exact hi)).box _ _ rfl
        rw [k2] at m1; cases m1
        obtain ⟨v, a, g1, g2, g3⟩ := vload_sound (es := 0) (ex := true) (al := true) m3 h
        obtain ⟨vs, as', h1, h2, h3⟩ := vres_sound hr (rs := rs) g1
        exact ⟨_, _, h1, .cons (R1_R2 g2) h2, by simp only [resultAll, resultOne, k3, load_blk m2 g3, h3]⟩
      · exact h.elim
    · exact h.elim

/-- Of the objects, those not yet handed over. -/
def Left (c : Ctx) (h : List VO) (used : List Nat) : Prop := ∀ i q t l fr, getO h i = .lst q t l fr → i ∉ used ∧ c.h[i]? = some (.lst q t l fr)

theorem Left.use {h : List VO} {used : List Nat} (hl : Left c h used) (i : Nat) : Left c (h.set i (.dead false)) (used ++ [i]) := by
  intro j q t l fr e
  have hji : j ≠ i := by
    intro e2
    subst e2
    unfold getO at e
    rw [List.getD_eq_getElem?_getD] at e
    by_cases hlt : j < h.length
    · rw [List.getElem?_set_self hlt] at e; cases e
    · rw [List.getElem?_eq_none (by simp; omega)] at e; cases e
  have e3 : getO h j = .lst q t l fr := by
    rw [← e]
    unfold getO
    rw [List.getD_eq_getElem?_getD, List.getD_eq_getElem?_getD, List.getElem?_set_ne (fun e => hji e.symm)]
  obtain ⟨h1, h2⟩ := hl j q t l fr e3
  exact ⟨fun hm => (List.mem_append.1 hm).elim h1 (fun hm => hji (List.mem_singleton.1 hm)), h2⟩

theorem XR.app {l : List VV} {is : List Nat} {azz : List Value} (h : XR c l is azz) : ∀ {m : List VV} {js : List Nat} {bs : List Value}, XR c m js bs → XR c (l ++ m) (is ++ js) (azz ++ bs) := by
  induction h with
  | nil => intro m js bs k; exact k
  | pl h t ih => intro m js bs k; exact .pl h (ih k)
  | nw h t ih => intro m js bs k; exact .nw h (ih k)
  | nl t ih => intro m js bs k; exact .nl (ih k)

theorem xp_sound : ∀ (T : Ty) {cs : List VV} {azz : List Value} {h : List VO} {used : List Nat} {K : T.den → List VV → List VO → Prop}, All2 (RL c) cs azz → Left c h used → used.Nodup → xp T cs h K →
    ∃ x r h' is a1 a2, K x r h' ∧ azz = a1 ++ a2 ∧ XR c (encN T x) is a1 ∧ All2 (RL c) r a2 ∧ Left c h' (used ++ is) ∧ (used ++ is).Nodup := by
  intro T
  induction T with
  | int k =>
    intro cs azz h used K hr hl hn hx
    unfold xp at hx
    split at hx
    · split at hx
      · rename_i e; subst e
        cases hr with
        | cons hr t => obtain ⟨rfl, hp⟩ := hr; exact ⟨_, _, h, [], [_], _, hx, rfl, .pl hp .nil, t, by rw [List.append_nil]; exact hl, by rw [List.append_nil]; exact hn⟩
      · exact hx.elim
    · exact hx.elim
  | bool =>
    intro cs azz h used K hr hl hn hx
    unfold xp at hx
    split at hx
    · cases hr with
      | cons hr t => obtain ⟨rfl, hp⟩ := hr; exact ⟨_, _, h, [], [_], _, hx, rfl, .pl hp .nil, t, by rw [List.append_nil]; exact hl, by rw [List.append_nil]; exact hn⟩
    · exact hx.elim
  | str =>
    intro cs azz h used K hr hl hn hx
    unfold xp at hx
    split at hx
    · cases hr with
      | cons hr t => obtain ⟨rfl, hp⟩ := hr; exact ⟨_, _, h, [], [_], _, hx, rfl, .pl hp .nil, t, by rw [List.append_nil]; exact hl, by rw [List.append_nil]; exact hn⟩
    · exact hx.elim
  | slc T ih =>
    intro cs azz h used K hr hl hn hx
    unfold xp at hx
    split at hx
    · rename_i i r
      split at hx
      · rename_i t' l hg
        obtain ⟨e, hx⟩ := Ty.at_inv hx
        subst e
        obtain ⟨k1, k2⟩ := hl i _ _ _ _ hg
        cases hr with
        | cons hr t =>
          have ha := R2_own (c := c) (show R2 c (.own i) _ from hr) k2
          subst ha
          exact ⟨_, _, _, [i], [_], _, hx, rfl, .nw k2 .nil, t, hl.use i, by
            rw [List.nodup_append]
            exact ⟨hn, by simp, fun a ha b hb e => k1 (by rw [List.mem_singleton] at hb; subst hb; subst e; exact ha)⟩⟩
      · exact hx.elim
    · cases hr with
      | cons hr t => obtain ⟨rfl, hp⟩ := hr; exact ⟨_, _, h, [], [_], _, hx, rfl, .nl .nil, t, by rw [List.append_nil]; exact hl, by rw [List.append_nil]; exact hn⟩
    · exact hx.elim
  | unit =>
    intro cs azz h used K hr hl hn hx
    exact ⟨(), cs, h, [], [], azz, hx, rfl, .nil, hr, by rw [List.append_nil]; exact hl, by rw [List.append_nil]; exact hn⟩
  | pair A B iha ihb =>
    intro cs azz h used K hr hl hn hx
    unfold xp at hx
    obtain ⟨x, r, h1, is, a1, a2, k1, rfl, k3, k4, k5, k6⟩ := iha hr hl hn hx
    obtain ⟨y, r', h2, js, b1, b2, g1, rfl, g3, g4, g5, g6⟩ := ihb k4 k5 k6 k1
    exact ⟨(x, y), r', h2, is ++ js, a1 ++ b1, b2, g1, by rw [List.append_assoc], k3.app g3, g4, by rw [← List.append_assoc]; exact g5, by rw [← List.append_assoc]; exact g6⟩

theorem XR.len {l : List VV} {is : List Nat} {azz : List Value} (h : XR c l is azz) : l.length = azz.length := by
  induction h with
  | nil => rfl
  | pl h t ih => simp [ih]
  | nw h t ih => simp [ih]
  | nl t ih => simp [ih]

theorem okL_leaf {v : VV} {a : Value} (hv : okL v = true) (h : R2 c v a) : RL c v a := by
  cases v <;> first | exact h | cases hv

theorem xpAll_sound : ∀ (rt : ResT) {vs : List VV} {azz : List Value} {h : List VO} {used : List Nat} {K : denR rt → Prop}, All2 (R2 c) vs azz → Left c h used → used.Nodup → xpAll rt vs h K →
    ∃ x is, K x ∧ XS c (slots rt x) is azz ∧ (used ++ is).Nodup := by
  intro rt
  induction rt with
  | nil =>
    intro vs azz h used K hr hl hn hx
    unfold xpAll at hx
    split at hx
    · cases hr; exact ⟨(), [], hx, .nil, by rw [List.append_nil]; exact hn⟩
    · exact hx.elim
  | cons p rt ih =>
    obtain ⟨g, T⟩ := p
    intro vs azz h used K hr hl hn hx
    unfold xpAll at hx
    split at hx
    · rename_i v r
      split at hx
      · rename_i hg
        cases hr with
        | cons hv t =>
          rename_i a azz
          cases g with
          | true =>
            cases v with
            | agg l =>
              obtain ⟨bs, rfl, h2⟩ := R2_agg hv
              obtain ⟨x, left, h1, is, a1, a2, k1, k2, k3, k4, k5, k6⟩ := xp_sound T h2 hl hn hx
              split at k1
              · cases k4
                rw [List.append_nil] at k2
                subst k2
                obtain ⟨y, js, g1, g2, g3⟩ := ih t k5 k6 k1
                exact ⟨(x, y), is ++ js, g1, .agg k3 g2, by rw [← List.append_assoc]; exact g3⟩
              · exact k1.elim
            | _ => cases hg.1
          | false =>
            have hok : okL v = true := hg.2.resolve_left (by simp)
            have hleaf := okL_leaf hok hv
            have hvc : vcells v = [v] := by cases v <;> first | rfl | cases hok
            rw [hvc] at hx
            obtain ⟨x, left, h1, is, a1, a2, k1, k2, k3, k4, k5, k6⟩ := xp_sound T (.cons hleaf .nil) hl hn hx
            split at k1
            · cases k4
              rw [List.append_nil] at k2
              subst k2
              obtain ⟨y, js, g1, g2, g3⟩ := ih t k5 k6 k1
              have hlen := k3.len
              match he : encN T x with
              | [z] =>
                rw [he] at k3
                refine ⟨(x, y), is ++ js, g1, ?_, by rw [← List.append_assoc]; exact g3⟩
                show XS c ((false, encN T x) :: slots rt y) _ _
                rw [he]
                exact .one k3 g2
              | [] => rw [he] at hlen; simp at hlen
              | _ :: _ :: _ => rw [he] at hlen; simp at hlen
            · exact k1.elim
      · exact hx.elim
    · exact hx.elim

theorem start_look (args : List Value) : ∀ d, start args.toArray d = args.getD d undef := by
  intro d
  unfold start
  rw [Array.getD_eq_getD_getElem?, List.getD_eq_getElem?_getD]
  simp

theorem zip_start {R : VV → Value → Prop} (hu : ∀ a, R .undef a) : ∀ {vs : List VV} {azz : List Value} (k : Nat), All2 R vs azz → ∀ d, k ≤ d → R (lookV (zipT (List.range' k vs.length) vs) d) (azz.getD (d - k) undef)
  | [], [], k, .nil, d, _ => hu _
  | v :: vs, a :: azz, k, .cons h t, d, hd => by
    show R (if k = d then v else lookV (zipT (List.range' (k + 1) vs.length) vs) d) _
    by_cases e : k = d
    · rw [if_pos e, show d - k = 0 by omega]; exact h
    · rw [if_neg e, show d - k = (d - (k + 1)) + 1 by omega, List.getD_cons_succ]
      exact zip_start hu (k + 1) t d (by omega)

theorem startV_tok {vs : List VV} {azz : List Value} (h : All2 (R2 c) vs azz) : Tok c (startV vs) (start azz.toArray) := by
  intro d
  rw [start_look]
  unfold startV
  rw [List.range_eq_range']
  have := zip_start (R := R2 c) (fun _ => trivial) 0 h d (Nat.zero_le _)
  rwa [Nat.sub_zero] at this

theorem ctx0_ok (H : AHeap) (hs : Nat → Value → Prop) : Ok (fun b => blk? H b) H (ctx0 H hs) H where
  n0 := rfl
  pre := Pre.refl H
  fz := fun b B e => e
  low := fun b _ => rfl
  obj := fun i o h => by simp [ctx0] at h
  inj := fun i j b _ h => by cases h
  dom := fun _ _ => rfl

/-- A function, at one call. -/
theorem vfun_at {ct : Tab} {en : Ends} {f : FuncId} {fn : Func} {cd : Code} {rt : ResT} {args : List VV} {Q : List (Bool × List VV) → Prop} {hs : Nat → Value → Prop} {azz : List Value}
    (hf : G.P.funcs[f]? = some fn) (hb : fn.body = some cd) (hfo : funcOk fn cd = true) (hsz : args.length ≤ fn.ntmps) (htab : TabOk G ct en cd) (hO : ∀ f args Q, G.O f args Q → Sound G.P f args Q) (hΓ : HsOk G H hs) (hfl : fl ≤ H.length)
    (ha : All2 (R2 (ctx0 H hs)) args azz) (hv : vfun G ct en fn cd rt args fun r => Q (slots rt r)) : SoundAt G.P fl f azz.toArray H Q := by
  refine W_call hf hb hfo (by simp; rw [← ha.len]; exact hsz) ?_
  have hco : codeOk fn.ntmps cd = true := by
    unfold funcOk at hfo
    simp only [Bool.and_eq_true] at hfo
    exact hfo.1.1
  have hr : RelE (fun b => blk? H b) H hs ⟨startV args, []⟩ (start azz.toArray) H := ⟨ctx0 H hs, rfl, rfl, ctx0_ok H hs, startV_tok ha⟩
  have he : EnvF G H hs fl := ⟨hO, hΓ, hfl⟩
  unfold vfun at hv
  have key : ∃ s', RelE (fun b => blk? H b) H hs s' (start azz.toArray) H ∧ vwp G ct en cd 1 s' (fun e s => match e with
      | .normal | .ret => vres G s fn.results.toList fun vs => xpAll rt vs s.h fun r => Q (slots rt r)
      | _ => False) := by
    unfold cutE at hv
    split at hv
    · rename_i E hE
      obtain ⟨y, h1, h2⟩ := toSh_sound hr hv
      exact ⟨_, h2, htab 1 E hE 1 cd rfl y _ h1⟩
    · exact ⟨_, hr, hv⟩
  obtain ⟨s', hr', hv'⟩ := key
  refine vwp_sound (n := fn.ntmps) he htab cd 1 (Nat.le_refl _) ⟨1, rfl⟩ hco hr' hv' ?_
  intro e s2 ta2 H2 hr2 hk
  have fin : (vres G s2 fn.results.toList fun vs => xpAll rt vs s2.h fun r => Q (slots rt r)) → ∃ vs, resultAll G.P ta2 H2 fn.results.toList = some vs ∧ ∃ sl, Q sl ∧ ResOk H H2 sl (wrap1 vs) := by
    intro hk
    obtain ⟨c2, hc2, hrel⟩ := hr2
    obtain ⟨vs, as2, h1, h2, h3⟩ := vres_sound hrel hk
    obtain ⟨x, is, g1, g2, g3⟩ := xpAll_sound rt (h := s2.h) (used := []) h2 (fun i q t l fr e => ⟨by simp, by rw [hrel.1]; exact getO_get e (by intro e; cases e)⟩) List.nodup_nil h1
    exact ⟨as2, h3, _, g1, c2, is, as2, hrel.2.1, g2, by simpa using g3, rfl⟩
  cases e with
  | normal => exact fin hk
  | ret => exact fin hk
  | _ => exact hk.elim

theorem noHs_ok (G : Cfg) (H : AHeap) : HsOk G H noHs := fun i a h => h.elim

/-- A function without functions among its arguments. -/
theorem vfun_sound {ct : Tab} {en : Ends} {f : FuncId} {fn : Func} {cd : Code} {rt : ResT} {args : List VV} {Q : List (Bool × List VV) → Prop}
    (hf : G.P.funcs[f]? = some fn) (hb : fn.body = some cd) (hfo : funcOk fn cd = true) (hsz : args.length ≤ fn.ntmps) (htab : TabOk G ct en cd) (hO : ∀ f args Q, G.O f args Q → Sound G.P f args Q)
    (hv : vfun G ct en fn cd rt args fun r => Q (slots rt r)) : Sound G.P f args Q :=
  fun fl H azz hfl ha => vfun_at hf hb hfo hsz htab hO (noHs_ok G H) hfl ha hv

/-- A loop told plainly is a loop of the value machine's. -/
theorem Loop.map {S S' : Type} {σ : S → S'} {B : S → (S → Prop) → Prop} {B' : S' → (S' → Prop) → Prop} (h : ∀ s X, B s (fun s => X (σ s)) → B' (σ s) X) {s : S} (hl : Loop B s) : Loop B' (σ s) :=
  fun X hX => hl (fun s => X (σ s)) fun s hs => hX _ (h s X hs)

/-- A loop: what holds at the head of each round, and a number that each round lowers. -/
theorem Loop.inv {S : Type} {B : S → (S → Prop) → Prop} (I : Nat → S → Prop) {n : Nat} {s : S} (h0 : I n s) (step : ∀ n s X, I n s → (∀ m s', m < n → I m s' → X s') → B s X) : Loop B s := by
  intro X hX
  have : ∀ n s, I n s → X s := by
    intro n
    induction n using Nat.strongRecOn with
    | _ n ih => exact fun s hs => hX s (step n s X hs fun m s' hm hs' => ih m hm s' hs')
  exact this n s h0

/-- A loop's node. -/
theorem tab_loop {S : Type} {ct : Tab} {en : Ends} {m : Nat} {s : VS} {k : AExit → VS → Prop} {cd b : Code} (hc : cd = .loop b) (σ : S → VS) (y0 : S) {B : S → (S → Prop) → Prop} (hs : tidyE en m s = σ y0)
    (hB : ∀ y X, LB k en m (cutE ct (2 * m) (vwp G ct en b (2 * m))) (σ y) X = B y fun y => X (σ y)) (h : Loop B y0) : vwp G ct en cd m s k := by
  subst hc
  show Loop (LB k en m (cutE ct (2 * m) (vwp G ct en b (2 * m)))) (tidyE en m s)
  rw [hs]
  exact Loop.map (fun y X hb => by rw [hB]; exact hb) h

/-- Arguments, told by their shapes. -/
theorem unAF_sound {c : Ctx} {x : Lf} {v : VV} {a : Value} {K : x.den → Prop} (hr : R2 c v a) (h : unAF x v K) : ∃ d, K d ∧ R2 c (packF x d) a := by
  unfold unAF at h
  split at h
  · split at h
    · obtain ⟨e, h⟩ := Ty.at_inv h
      subst e
      exact ⟨_, h, hr⟩
    · obtain ⟨rfl, _⟩ := R2_pl hr
      exact ⟨[], h, none, _, rfl, ⟨Nat.zero_le _, .inl rfl⟩⟩
    · exact h.elim
  · obtain ⟨d, rfl, h1⟩ := unF_sound h
    exact ⟨d, h1, hr⟩
theorem unAFL_sound {c : Ctx} {x : Lf} {v : VV} {a : Value} {K : x.den → Prop} (hr : RL c v a) (h : unAF x v K) : ∃ d, K d ∧ RL c (packF x d) a := by
  unfold unAF at h
  split at h
  · split at h
    · obtain ⟨e, h⟩ := Ty.at_inv h
      subst e
      exact ⟨_, h, hr⟩
    · obtain ⟨rfl, _⟩ := hr
      exact ⟨[], h, none, _, rfl, ⟨Nat.zero_le _, .inl rfl⟩⟩
    · exact h.elim
  · obtain ⟨d, rfl, h1⟩ := unF_sound h
    exact ⟨d, h1, hr⟩
theorem unAL_sound {c : Ctx} : ∀ {l : List Lf} {vs : List VV} {azz : List Value} {K : denL l → Prop}, All2 (RL c) vs azz → unAL l vs K → ∃ d, K d ∧ All2 (RL c) (packL l d) azz
  | [], vs, azz, K, hr, h => by
    unfold unAL at h
    split at h
    · exact ⟨(), h, hr⟩
    · exact h.elim
  | x :: l, vs, azz, K, hr, h => by
    unfold unAL at h
    split at h
    · cases hr with
      | cons hr t =>
        obtain ⟨a, h1, h2⟩ := unAFL_sound hr h
        obtain ⟨b, h3, h4⟩ := unAL_sound t h1
        exact ⟨(a, b), h3, .cons h2 h4⟩
    · exact h.elim
theorem unASh_sound {c : Ctx} {x : Sh} {v : VV} {a : Value} {K : x.den → Prop} (hr : R2 c v a) (h : unASh x v K) : ∃ d, K d ∧ R2 c (packSh x d) a := by
  unfold unASh at h
  split at h
  · exact unAF_sound hr h
  · split at h
    · obtain ⟨azz, rfl, h2⟩ := R2_agg hr
      obtain ⟨d, k1, k2⟩ := unAL_sound h2 h
      exact ⟨d, k1, azz, rfl, k2⟩
    · exact h.elim
  · split at h
    · obtain ⟨b, B, rfl, h2, h3⟩ := R2_bx hr
      obtain ⟨d, k1, k2⟩ := unAL_sound h3 h
      exact ⟨d, k1, b, B, rfl, h2, k2⟩
    · exact h.elim
theorem unA_sound {c : Ctx} : ∀ {l : List Sh} {vs : List VV} {azz : List Value} {K : denS l → Prop}, All2 (R2 c) vs azz → unA l vs K → ∃ d, K d ∧ All2 (R2 c) (packS l d) azz
  | [], vs, azz, K, hr, h => by
    unfold unA at h
    split at h
    · exact ⟨(), h, hr⟩
    · exact h.elim
  | x :: l, vs, azz, K, hr, h => by
    unfold unA at h
    split at h
    · cases hr with
      | cons hr t =>
        obtain ⟨a, h1, h2⟩ := unASh_sound hr h
        obtain ⟨b, h3, h4⟩ := unA_sound t h1
        exact ⟨(a, b), h3, .cons h2 h4⟩
    · exact h.elim

/-- One function more in the table. -/
theorem tab_more {P : Program} {O : FuncId → List VV → (List (Bool × List VV) → Prop) → Prop} (hO : ∀ f args Q, O f args Q → Sound P f args Q) {f0 : FuncId} (sh : List Sh) (D : denS sh → (List (Bool × List VV) → Prop) → Prop) (hD : ∀ x Q, D x Q → Sound P f0 (packS sh x) Q) :
    ∀ f args Q, (if f = f0 then unA sh args (fun x => D x Q) else O f args Q) → Sound P f args Q := by
  intro f args Q h
  by_cases e : f = f0
  · rw [if_pos e] at h
    subst e
    intro fl H azz hfl ha
    obtain ⟨d, h1, h2⟩ := unA_sound ha h
    exact hD d Q h1 fl H azz hfl h2
  · rw [if_neg e] at h
    exact hO f args Q h

end
end Go.Mach
