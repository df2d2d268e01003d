/- A region that draws its order is carried out by the model, whatever order it draws. No condition. -/
import Derived.Test.YtlgcbiacijgcmaaGreatDoorInv
namespace Go.Mach

def Listed (l : Array Bool) (i : Nat) : Prop := l.getD i false = true

def unlisted (n : Nat) (l : Array Bool) : List Nat := (List.range n).filter fun i => !l.getD i true

section
variable {P : Program} {cl : Nat → Caller} {fc : Nat → Nat} {Pm : Nat → Nat → Prop} {base fl n : Nat} {ops : Array Oper} {b : Array Nat} {T : Nat → Temps} {HH : Nat → AHeap} {w0 : World} {ρ0 ρ : Ren} {wS w : World} {a : Act}

theorem getD_both {l : Array Bool} {i : Nat} (h : i < l.size) : l.getD i true = l.getD i false := by
  simp [Array.getD_eq_getD_getElem?, Array.getElem?_eq_getElem h]

theorem listed_set {l : Array Bool} {i j : Nat} (hi : i < l.size) : Listed (l.setIfInBounds i true) j ↔ (Listed l j ∨ j = i) := by
  unfold Listed
  simp only [Array.getD_eq_getD_getElem?]
  by_cases h : j = i
  · subst h; simp [hi]
  · rw [Array.getElem?_setIfInBounds_ne (fun e => h e.symm)]; simp [h]

theorem mem_ready {md : Region.Mode} {l : Array Bool} {i : Nat} : i ∈ Region.ready md ops l ↔ ∃ o, ops[i]? = some o ∧ l.getD i true = false ∧ ∀ e ∈ o.after.toList, Region.binds md e = true → l.getD e.on false = true := by
  unfold Region.ready
  simp only [List.mem_filter, List.mem_range, Bool.and_eq_true, Bool.not_eq_true']
  constructor
  · rintro ⟨h1, h2, h3⟩
    refine ⟨ops[i], Array.getElem?_eq_getElem h1, h2, fun e he hb => ?_⟩
    rw [Array.getElem?_eq_getElem h1] at h3
    simp only [Option.map_some, Option.getD_some, Array.all_eq_true_iff_forall_mem] at h3
    have := h3 e (by simpa using he)
    simpa [hb] using this
  · rintro ⟨o, h1, h2, h3⟩
    refine ⟨lt_of_get h1, h2, ?_⟩
    rw [h1]
    simp only [Option.map_some, Option.getD_some, Array.all_eq_true_iff_forall_mem]
    intro e he
    cases hb : Region.binds md e with
    | false => rfl
    | true => simp [h3 e (by simpa using he) hb]

theorem Drawn.edge_lt (D : Drawn P cl fc Pm base w0 fl n ops b T HH) {i : Nat} {o : Oper} (ho : ops[i]? = some o) {e : Edge} (he : e ∈ o.after.toList) (hb : Region.binds .any e = true) : e.on < i := by
  have := D.hdraw
  simp only [drawOk0, Bool.and_eq_true] at this
  have := this.1
  simp only [edgesOk, List.all_eq_true, List.mem_range] at this
  have := this i (lt_of_get ho)
  simp only [ho, Option.map_some, Option.getD_some, List.all_eq_true] at this
  simpa [hb] using this e he

/-- What the edges say of what has been done. -/
def Closed (ops : Array Oper) (l : Array Bool) : Prop := ∀ (i : Nat) o, ops[i]? = some o → Listed l i → ∀ e ∈ o.after.toList, Region.binds .any e = true → Listed l e.on

theorem closed_bef (D : Drawn P cl fc Pm base w0 fl n ops b T HH) {l : Array Bool} (hc : Closed ops l) : ∀ (i j : Nat), i < ops.size → Listed l i → Bef b i j → Listed l j := by
  intro i
  induction i using Nat.strongRecOn with
  | _ i ih =>
    intro j hi hl hb
    have ho := Array.getElem?_eq_getElem hi
    unfold Bef at hb
    rw [D.hb] at hb
    obtain ⟨e, he, hbd, h⟩ := before_bit ho hb
    have hle := hc i _ ho hl e he hbd
    rcases h with h | ⟨h1, h2⟩
    · rwa [← h]
    · exact ih e.on h1 j (by omega) hle (by unfold Bef; rw [D.hb]; exact h2)

theorem upnext_of (D : Drawn P cl fc Pm base w0 fl n ops b T HH) {l : Array Bool} (hsz : l.size = ops.size) (hc : Closed ops l) {i : Nat} (h : i ∈ Region.ready .any ops l) : Upnext ops b (Listed l) i := by
  obtain ⟨o, ho, h1, h2⟩ := mem_ready.1 h
  have hi := lt_of_get ho
  refine ⟨hi, ?_, fun j hb => ?_, fun i j hi hl hb => closed_bef D hc i j hi hl hb⟩
  · unfold Listed; rw [← getD_both (by omega), h1]; simp
  · unfold Bef at hb
    rw [D.hb] at hb
    obtain ⟨e, he, hbd, h⟩ := before_bit ho hb
    have hle : Listed l e.on := h2 e he hbd
    rcases h with h | ⟨h3, h4⟩
    · rwa [← h]
    · exact closed_bef D hc e.on j (by omega) hle (by unfold Bef; rw [D.hb]; exact h4)

theorem all_listed (D : Drawn P cl fc Pm base w0 fl n ops b T HH) {l : Array Bool} (hsz : l.size = ops.size) (h : Region.ready .any ops l = []) : ∀ i, i < ops.size → Listed l i := by
  intro i
  induction i using Nat.strongRecOn with
  | _ i ih =>
    intro hi
    by_cases hl : Listed l i
    · exact hl
    · exfalso
      have ho := Array.getElem?_eq_getElem hi
      have : i ∈ Region.ready .any ops l := mem_ready.2 ⟨_, ho, by
        unfold Listed at hl
        rw [getD_both (by omega)]
        simpa using hl, fun e he hb => by
        have := D.edge_lt ho he hb
        exact ih e.on this (by omega)⟩
      rw [h] at this; cases this

theorem drawn_any (D : Drawn P cl fc Pm base w0 fl n ops b T HH) (hfr0 : ∀ id, (HH 0).length ≤ id → id < (HH ops.size).length → ρ0 id = none) {Q : Exit → Act → World → Prop}
    (hQ : ∀ ρ' a' w', Inv base w0 fl n ops Pm T HH ρ0 wS (fun j => j < ops.size) ρ' a' w' → Q .normal a' w') :
    ∀ (fuel : Nat) (l : Array Bool) (ρ : Ren) (a : Act) (w : World), l.size = ops.size → Closed ops l → (unlisted ops.size l).length = fuel → Inv base w0 fl n ops Pm T HH ρ0 wS (Listed l) ρ a w →
      wpAny P .any ops Q fuel l a w := by
  have fin : ∀ (l : Array Bool) (ρ : Ren) (a : Act) (w : World), l.size = ops.size → Inv base w0 fl n ops Pm T HH ρ0 wS (Listed l) ρ a w → Region.ready .any ops l = [] → Q .normal a w := by
    intro l ρ a w hsz I hr
    have hall := all_listed D hsz hr
    have hS : Listed l = fun j => j < ops.size := funext fun j => propext ⟨fun h => by
      unfold Listed at h
      rcases Nat.lt_or_ge j ops.size with h1 | h1
      · exact h1
      · simp [Array.getD_eq_getD_getElem?, Array.getElem?_eq_none (show l.size ≤ j by omega)] at h, fun h => hall j h⟩
    rw [hS] at I
    exact hQ ρ a w I
  intro fuel
  induction fuel with
  | zero =>
    intro l ρ a w hsz hc hn I
    have hr : Region.ready .any ops l = [] := by
      cases hq : Region.ready .any ops l with
      | nil => rfl
      | cons i r =>
        exfalso
        have hi : i ∈ Region.ready .any ops l := by rw [hq]; exact List.mem_cons_self ..
        obtain ⟨o, ho, h1, _⟩ := mem_ready.1 hi
        have : i ∈ unlisted ops.size l := List.mem_filter.2 ⟨List.mem_range.2 (lt_of_get ho), by simp [h1]⟩
        rw [List.eq_nil_of_length_eq_zero hn] at this
        cases this
    exact ⟨hr, fin l ρ a w hsz I hr⟩
  | succ fuel ih =>
    intro l ρ a w hsz hc hn I
    refine ⟨fun hr => fin l ρ a w hsz I hr, fun i hi => ?_⟩
    have hu := upnext_of D hsz hc hi
    have hil : i < l.size := by rw [hsz]; exact hu.lt
    obtain ⟨o, ho, h1, h2⟩ := mem_ready.1 hi
    refine Inv.step D I hfr0 hu ho fun ρ' a' w' I' => ih _ ρ' a' w' (by simpa using hsz) ?_ ?_ ?_
    · intro j p hp hl e he hb
      rw [listed_set hil] at hl ⊢
      rcases hl with hl | rfl
      · exact .inl (hc j p hp hl e he hb)
      · rw [ho] at hp; cases hp
        exact .inl (h2 e he hb)
    · have hone := filter_one_less (List.nodup_range (n := ops.size)) (p := fun i => !l.getD i true) (List.mem_range.2 hu.lt) (by simp [h1])
      have : unlisted ops.size (l.setIfInBounds i true) = (List.range ops.size).filter fun x => !l.getD x true && x != i := by
        unfold unlisted
        refine List.filter_congr fun x hx => ?_
        simp only [Array.getD_eq_getD_getElem?]
        by_cases h : x = i
        · subst h; simp [hsz, hu.lt]
        · rw [Array.getElem?_setIfInBounds_ne (fun e => h e.symm)]; simp [h]
      rw [this]
      unfold unlisted at hn
      omega
    · have : (fun j => Listed l j ∨ j = i) = Listed (l.setIfInBounds i true) := funext fun j => propext (listed_set hil).symm
      rw [← this]; exact I'

theorem drawn_core {Q : Exit → Act → World → Prop} (D : Drawn P cl fc Pm base w0 fl n ops b T HH) (S : Sim base w0 All ρ (HH 0) w) (hfr0 : ∀ id, (HH 0).length ≤ id → id < (HH ops.size).length → ρ id = none) (hT : TRel n ρ (T 0) a) (hm : P.follows .mixedOrders = true) (id : Nat)
    (hQ : ∀ ρ' a' w', TRel n ρ' (T ops.size) a' → Step base w0 All All fl ρ (HH 0) w ρ' (HH ops.size) w' → Q .normal a' w') : (Code.region id ops true).wp P Q a w := by
  refine wp_region_any hm ?_
  have I0 := Inv.start (wS := { w with drawn := w.drawn + 1 }) D (S.heap rfl) hfr0 hT
  refine drawn_any (w0 := w0) (wS := { w with drawn := w.drawn + 1 }) D hfr0 ?_ ops.size (Array.replicate ops.size false) ρ a _ (by simp) ?_ ?_ ?_
  · intro ρ' a' w' I
    have syn : ∀ id, Sync fl ops Pm T HH (fun j => j < ops.size) id ops.size := fun id j hj _ => ⟨fun h => h, fun h => h⟩
    have live : ∀ id, (blk? (HH ops.size) id).isSome = true → Live fl ops Pm T HH (fun j => j < ops.size) id := fun id hb => ⟨ops.size, Nat.le_refl _, syn id, hb⟩
    refine hQ ρ' a' w' ⟨I.size, I.defers, fun d hd => ?_⟩ ?_
    · exact I.tmps d hd ops.size (Nat.le_refl _) fun j p hp _ => ⟨fun h => h, fun h => h⟩
    · refine ⟨⟨I.base_le, I.old, I.dom, I.apart, fun id L B h hB => I.stat ops.size (Nat.le_refl _) id L B h hB, fun id L B _ h hB => I.cont ops.size (Nat.le_refl _) id L B h (syn id) hB,
        fun id id' L L' _ _ h h' hl hl' b1 b2 he => I.inj id id' L L' h h' (live id hl) (live id' hl') b1 b2 he⟩, I.ext, fun id L h h' => ?_, fun i hi hno => ?_, I.grow, I.side, D.len (Nat.zero_le _) (Nat.le_refl _), fun i hi hk => ?_, fun i hi hb => ?_⟩
      · obtain ⟨⟨k, hk, _, k1, k2⟩, k3⟩ := I.new id L h h'
        have e1 := D.len (i := 0) (k := k) (Nat.zero_le _) (by omega)
        have e2 := D.len (i := k + 1) (k := ops.size) (by omega) (Nat.le_refl _)
        refine ⟨by omega, by omega, ?_⟩
        rcases k3 with k3 | ⟨id0, L0, f, e0, eb, al, nl⟩
        · exact .inl k3
        · refine .inr ⟨id0, L0, f, trivial, trivial, e0, eb, al, ?_⟩
          cases hb : blk? (HH ops.size) id0 with
          | none => rfl
          | some B => exact absurd (live id0 (by rw [hb]; rfl)) nl
      · exact I.frame i hi fun id L f e al => hno id L f trivial trivial e al
      · refine D.keep (Nat.zero_le _) (Nat.le_refl _) hi fun j _ hj hw => ?_
        rcases hk with hk | hk
        · have := D.wrote_fl hj hw
          omega
        · exact hk trivial
      · cases hbb : blk? (HH ops.size) i with
        | none => rw [hbb] at hb; cases hb
        | some B =>
          obtain ⟨q1, q2⟩ := blk?_inv hbb
          obtain ⟨B', r1, _, _, _, r5⟩ := D.stat (List.getElem?_eq_getElem hi) (Nat.zero_le _) (Nat.le_refl _)
          rw [q1] at r1; cases r1
          unfold blk?
          rw [List.getElem?_eq_getElem hi]
          simp [r5 q2]
  · intro i o ho hl
    unfold Listed at hl
    simp [Array.getD_eq_getD_getElem?, Array.getElem?_replicate] at hl
    split at hl <;> simp at hl
  · unfold unlisted
    rw [List.filter_eq_self.2]
    · simp
    · intro i hi
      simp [Array.getD_eq_getD_getElem?, List.mem_range.1 hi]
  · have : Listed (Array.replicate ops.size false) = fun _ => False := funext fun j => propext ⟨fun h => by
      unfold Listed at h
      simp [Array.getD_eq_getD_getElem?, Array.getElem?_replicate] at h
      split at h <;> simp at h, fun h => h.elim⟩
    rw [this]; exact I0

/-- The run with floors. -/
theorem drawn_old {call : Caller} {b : Array Nat} {t t' : Temps} {H H' : AHeap} {Q : Exit → Act → World → Prop} (hb : b = befores ops.toList #[]) (hcs : CallerSound base w0 P call) (hck : CallerKept call) (hbf : base ≤ fl) (hfl : fl ≤ H.length) (hok : ∀ (i : Nat) o, ops[i]? = some o → opOk n ops o = true)
    (hd : drawOk0 ops b = true) (hl : (clashes ops b).all (fun p => lasting ops p.1 && lasting ops p.2) = true) (hrun : runDrawn P call fl ops b 0 ops.toList t H = some (t', H')) (hcl : (clashes ops b).all (clashOk ops t') = true)
    (S : Sim base w0 All ρ H w) (hfr : ∀ id, H.length ≤ id → id < H'.length → ρ id = none) (hT : TRel n ρ t a) (hm : P.follows .mixedOrders = true) (id : Nat)
    (hQ : ∀ ρ' a' w', TRel n ρ' t' a' → Step base w0 All All fl ρ H w ρ' H' w' → Q .normal a' w') : (Code.region id ops true).wp P Q a w := by
  obtain ⟨T, HH, h1, h2, h3, h4, h5⟩ := trace_of _ _ _ _ _ _ hrun
  simp only [Nat.zero_add, Array.length_toList] at h3 h4 h5
  subst h1; subst h2; subst h3; subst h4
  have h6 : ∀ k o, ops[k]? = some o → stepOp P call fl (if kindOf o.op == 4 && apartCall ops b k then fl else (HH k).length) ops o (T k) (HH k) = some (T (k + 1), HH (k + 1)) := fun k o ho => h5 k o (by simpa using ho)
  have lens : ∀ k, k ≤ ops.size → fl ≤ (HH k).length := by
    intro k
    induction k with
    | zero => exact fun _ => hfl
    | succ k ih =>
      intro hk
      have := (stepOp_kept' hck (by split <;> first | exact .inl (Nat.le_refl _) | exact .inr (Nat.le_refl _)) (h6 k ops[k] (Array.getElem?_eq_getElem hk))).len
      have := ih (by omega)
      omega
  obtain ⟨fc, hfc⟩ : ∃ fc : Nat → Nat, ∀ k o, ops[k]? = some o → fc k = if kindOf o.op == 4 && apartCall ops b k then fl else (HH k).length :=
    ⟨fun k => match ops[k]? with
      | some o => if kindOf o.op == 4 && apartCall ops b k then fl else (HH k).length
      | none => 0, fun k o ho => by simp only [ho]⟩
  refine drawn_core (cl := fun _ => call) (fc := fc) (Pm := fun k id => fc k ≤ id) (T := T) (HH := HH) (b := b) (n := n)
    ⟨hb, hbf, hfl, fun k => hcs.toW _, fun k => hck.toW _, fun k hk => ?_, fun _ _ h => h, fun j oj hj hk4 id hlt hP => ?_, hok, hd, hl, hcl, fun k o ho => by rw [hfc k o ho]; exact h6 k o ho⟩ S hfr hT hm id hQ
  · have := lens k (by omega)
    rw [hfc k _ (Array.getElem?_eq_getElem hk)]
    split <;> omega
  · rw [hfc j oj hj] at hP
    split at hP
    · rename_i hap
      simp only [Bool.and_eq_true, beq_iff_eq] at hap
      refine ⟨fun i oi hi hne h => ?_, fun i oi hi hlt' hgr => ?_⟩
      · have hk' : kindOf oi.op ≠ 0 ∧ kindOf oi.op ≠ 1 := by
          rcases h with h | h
          · rcases acc_kind h with h | h <;> omega
          · omega
        exact (cmp_apart0 hb hd (lt_of_get hj) hi hne hk'.1 (fun e => absurd e hk'.2) hap.2).symm
      · refine (cmp_apart0 hb hd (lt_of_get hj) hi (by omega) (fun hk => ?_) (fun _ => hlt') hap.2).symm
        rw [stepOp_zero (h6 i oi hi) hk] at hgr
        omega
    · omega

/-- The run with calls that may not touch what is read beside them. -/
theorem drawn_semi {call : Caller} {b : Array Nat} {t t' : Temps} {H H' : AHeap} {Q : Exit → Act → World → Prop} (hb : b = befores ops.toList #[]) (hcs : CallerSound base w0 P call) (hck : CallerKept call) (hbf : base ≤ fl) (hfl : fl ≤ H.length) (hok : ∀ (i : Nat) o, ops[i]? = some o → opOk n ops o = true)
    (hd : drawOk0 ops b = true) (hl : (clashes ops b).all (fun p => lasting ops p.1 && lasting ops p.2) = true) (hrun : runSemi P call fl ops b 0 [] [] ops.toList t H = some (t', H')) (hcl : (clashes ops b).all (clashOk ops t') = true)
    (S : Sim base w0 All ρ H w) (hfr : ∀ id, H.length ≤ id → id < H'.length → ρ id = none) (hT : TRel n ρ t a) (hm : P.follows .mixedOrders = true) (id : Nat)
    (hQ : ∀ ρ' a' w', TRel n ρ' t' a' → Step base w0 All All fl ρ H w ρ' H' w' → Q .normal a' w') : (Code.region id ops true).wp P Q a w := by
  obtain ⟨T, HH, XX, h1, h2, _, h3, h4, h6, s2, _, _, s5⟩ := traceS_of ops.toList 0 [] [] t t' H H' (Nat.zero_le _) (fun k => by rw [Nat.zero_add]; simp) hrun
  subst h1; subst h2; subst h3; subst h4
  have h6 := fun k o (ho : ops[k]? = some o) => h6 k o (Nat.zero_le _) ho
  have hkc : ∀ k o, CallerKept (if semiAt ops b k o then lockCall call (XX k) else call) := fun k o => by
    split
    · exact lock_callKept hck _
    · exact hck
  have lens : ∀ k, k ≤ ops.size → fl ≤ (HH k).length := by
    intro k
    induction k with
    | zero => exact fun _ => hfl
    | succ k ih =>
      intro hk
      have := (stepOp_kept' (hkc k _) (by split <;> first | exact .inl (Nat.le_refl _) | exact .inr (Nat.le_refl _)) (h6 k ops[k] (Array.getElem?_eq_getElem hk))).len
      have := ih (by omega)
      omega
  obtain ⟨fc, hfc⟩ : ∃ fc : Nat → Nat, ∀ k o, ops[k]? = some o → fc k = if kindOf o.op == 4 && (apartCall ops b k || semiC ops b k o) then fl else (HH k).length :=
    ⟨fun k => match ops[k]? with
      | some o => if kindOf o.op == 4 && (apartCall ops b k || semiC ops b k o) then fl else (HH k).length
      | none => 0, fun k o ho => by simp only [ho]⟩
  obtain ⟨sb, hsb⟩ : ∃ sb : Nat → Bool, ∀ k o, ops[k]? = some o → sb k = semiAt ops b k o :=
    ⟨fun k => match ops[k]? with
      | some o => semiAt ops b k o
      | none => false, fun k o ho => by simp only [ho]⟩
  refine drawn_core (cl := fun k => if sb k then lockCall call (XX k) else call) (fc := fc) (Pm := fun k id => fc k ≤ id ∧ (sb k = true → id ∉ XX k)) (T := T) (HH := HH) (b := b) (n := n)
    ⟨hb, hbf, hfl, fun k => ?_, fun k => ?_, fun k hk => ?_, fun _ _ h => h.1, fun j oj hj hk4 id hlt hP => ?_, hok, hd, hl, hcl, fun k o ho => by simp only [hfc k o ho, hsb k o ho]; exact h6 k o ho⟩ S hfr hT hm id hQ
  · cases hs : sb k with
    | true => exact (lock_sound hcs (XX k) (fc k)).mono fun id h => ⟨h.1, fun _ => h.2⟩
    | false => exact (hcs.toW (fc k)).mono fun id h => ⟨h, fun h => by cases h⟩
  · cases hs : sb k with
    | true => exact fun f args H v H' h => (lock_kept hck (XX k) (fc k) f args H v H' h).mono fun id _ h => ⟨h.1, fun _ => h.2⟩
    | false => exact fun f args H v H' h => (hck (fc k) f args H v H' h).mono fun id _ h => ⟨h, fun h => by cases h⟩
  · have := lens k (by omega)
    rw [hfc k _ (Array.getElem?_eq_getElem hk)]
    split <;> omega
  · obtain ⟨hP1, hP2⟩ := hP
    rw [hfc j oj hj] at hP1
    rw [hsb j oj hj] at hP2
    split at hP1
    · rename_i hap
      simp only [Bool.and_eq_true, beq_iff_eq, Bool.or_eq_true] at hap
      by_cases happ : apartCall ops b j = true
      · refine ⟨fun i oi hi hne h => ?_, fun i oi hi hlt' hgr => ?_⟩
        · have hk' : kindOf oi.op ≠ 0 ∧ kindOf oi.op ≠ 1 := by
            rcases h with h | h
            · rcases acc_kind h with h | h <;> omega
            · omega
          exact (cmp_apart0 hb hd (lt_of_get hj) hi hne hk'.1 (fun e => absurd e hk'.2) happ).symm
        · refine (cmp_apart0 hb hd (lt_of_get hj) hi (by omega) (fun hk => ?_) (fun _ => hlt') happ).symm
          rw [stepOp_zero (h6 i oi hi) hk] at hgr
          omega
      · have hsc' : semiC ops b j oj = true := hap.2.resolve_left happ
        have hsc : semiCall ops b j = true := by
          unfold semiC at hsc'
          rw [Bool.and_eq_true] at hsc'
          exact hsc'.1
        have hsa : semiAt ops b j oj = true := by
          unfold semiAt
          rw [hsc']
          simp [hk4, happ]
        have hX := hP2 hsa
        refine ⟨fun i oi hi hne h => ?_, fun i oi hi hlt' hgr => ?_⟩
        · have hk' : kindOf oi.op ≠ 0 ∧ kindOf oi.op ≠ 1 := by
            rcases h with h | h
            · rcases acc_kind h with h | h <;> omega
            · omega
          by_cases hld : isLoad oi.op = true
          · have hacc : id ∈ accOf oi.op (eval (T i)) := by
              rcases h with h | h
              · exact h
              · exfalso
                cases ho : oi.op <;> rw [ho] at hld h <;> first | (cases hld; done) | (simp only [kindOf] at h; omega)
            rcases Nat.lt_or_gt_of_ne hne with hlt' | hgt
            · exact absurd (s2 i oi (Nat.zero_le _) hi hld j hlt' (Nat.le_of_lt (lt_of_get hj)) id hacc) hX
            · rcases s5 j oj i oi (Nat.zero_le _) hj hi hgt hsa with h7 | h7
              · exact ⟨fun h => by omega, fun _ => h7⟩
              · rcases h7 id hacc with h8 | h8
                · exact absurd h8 hX
                · omega
          · by_cases hcv : kindOf oi.op = 2 ∧ j < i
            · have hacc : id ∈ accOf oi.op (eval (T i)) := by
                rcases h with h | h
                · exact h
                · omega
              rcases s5 j oj i oi (Nat.zero_le _) hj hi hcv.2 hsa with h7 | h7
              · exact ⟨fun h => by omega, fun _ => h7⟩
              · rcases h7 id hacc with h8 | h8
                · exact absurd h8 hX
                · omega
            · exact (cmp_semi0 hb hd (lt_of_get hj) hi hne hk'.1 (fun e => absurd e hk'.2) (fun e => by omega) hld hsc).symm
        · refine (cmp_semi0 hb hd (lt_of_get hj) hi (by omega) (fun hk => ?_) (fun _ => hlt') (fun _ => hlt') (fun hld => ?_) hsc).symm
          · rw [stepOp_zero (h6 i oi hi) hk] at hgr
            omega
          · rw [stepOp_load (h6 i oi hi) hld] at hgr
            omega
    · omega

theorem drawn_sound {call : Caller} {t t' : Temps} {H H' : AHeap} {Q : Exit → Act → World → Prop} (hcs : CallerSound base w0 P call) (hck : CallerKept call) (hbf : base ≤ fl) (hfl : fl ≤ H.length) (hok : ∀ (i : Nat) o, ops[i]? = some o → opOk n ops o = true)
    (S : Sim base w0 All ρ H w) (hfr : ∀ id, H.length ≤ id → id < H'.length → ρ id = none) (hT : TRel n ρ t a) (hm : P.follows .mixedOrders = true) (id : Nat)
    (h : runRegion P call fl ops true t H = some (t', H')) (hQ : ∀ ρ' a' w', TRel n ρ' t' a' → Step base w0 All All fl ρ H w ρ' H' w' → Q .normal a' w') : (Code.region id ops true).wp P Q a w := by
  unfold runRegion at h
  simp only [if_true] at h
  split at h
  · rename_i hst
    simp only [Bool.and_eq_true] at hst
    split at h
    · rename_i t1 H1 hrun
      split at h
      · rename_i hcl
        cases h
        split at hrun
        · exact drawn_semi rfl hcs hck hbf hfl hok hst.1 hst.2 hrun hcl S hfr hT hm id hQ
        · exact drawn_old rfl hcs hck hbf hfl hok hst.1 hst.2 hrun hcl S hfr hT hm id hQ
      · cases h
    · cases h
  · cases h

end
end Go.Mach
