/- Part of the proof. No condition. -/
import Derived.Test.YtcfpfefadlnmcaaGreatYMem
namespace Go.Mach
abbrev Obj:=Option Nat×Blk
def Obj.ok (n:Nat) (H:aB) (p:Obj):Prop :=
 match p.1 with
 | some b=>n<=b/\blk? H b=some p.2
 | none=>p.2.cells=[]
structure St (H0 H:aB) (L:List Obj):Prop where
 pre:Pre H0 H
 own:∀ p∈L,Obj.ok H0.length H p
 nodup:(L.filterMap (·.1)).Nodup
def sl (a:Option Nat) (n:Nat):Value := .slice (a.map fun b=>⟨b,0,none⟩) n n
section
variable {H0 H H' H2:aB} {L L2:List Obj} {i j b b':Nat} {B B':Blk} {a:Option Nat} {k:IntKind} {l:List Int} {ex:Bool}
theorem St.refl (H:aB):St H H []:=⟨Pre.refl H,(fun p hp=>by cases hp),List.nodup_nil⟩
theorem St.ok (h:St H0 H L) {p:Obj} (hi:L[i]? = some p):Obj.ok H0.length H p:=h.own p (List.mem_of_getElem? hi)
theorem St.get (h:St H0 H L) (hi:L[i]? = some (some b,B)):blk? H b=some B:=(h.ok hi).2
theorem St.lo (h:St H0 H L) (hi:L[i]? = some (some b,B)):H0.length<=b:=(h.ok hi).1
theorem St.hi (h:St H0 H L) (hi:L[i]? = some (some b,B)):b<H.length:=blk?_below (h.get hi)
theorem St.len (h:St H0 H L):H0.length<=H.length:=h.pre.len
theorem aC3:∀ {L:List Obj} {i:Nat} {b:Nat} {B:Blk},L[i]? = some (some b,B)->b∈L.filterMap (·.1):=by
 intro L i b B h
 exact List.mem_filterMap.2 ⟨_,List.mem_of_getElem? h,rfl⟩
theorem aGX : ∀ {L : List Obj}, (L.filterMap (·.1)).Nodup -> ∀ {i j : Nat} {b b' : Nat} {B B' : Blk}, i ≠ j -> L[i]? = some (some b, B) -> L[j]? = some (some b', B') -> b ≠ b' := by
  intro L
  induction L with
  | nil => intro _ i j b b' B B' _ h; simp at h
  | cons p L ih =>
    intro hn i j b b' B B' hij hi hj
    obtain ⟨pa, pB⟩ := p
    have hn' : (L.filterMap (·.1)).Nodup := by
      cases pa with
      | none => simpa using hn
      | some c => simp only [List.filterMap_cons] at hn; exact (List.nodup_cons.1 hn).2
    cases i with
    | zero =>
      cases j with
      | zero => exact absurd rfl hij
      | succ j =>
        simp only [List.getElem?_cons_zero, Option.some.injEq, Prod.mk.injEq] at hi
        obtain ⟨rfl, rfl⟩ := hi
        simp only [List.getElem?_cons_succ] at hj
        simp only [List.filterMap_cons] at hn
        intro e
        exact (List.nodup_cons.1 hn).1 (e ▸ aC3 hj)
    | succ i =>
      cases j with
      | zero =>
        simp only [List.getElem?_cons_zero, Option.some.injEq, Prod.mk.injEq] at hj
        obtain ⟨rfl, rfl⟩ := hj
        simp only [List.getElem?_cons_succ] at hi
        simp only [List.filterMap_cons] at hn
        intro e
        exact (List.nodup_cons.1 hn).1 (e ▸ aC3 hi)
      | succ j =>
        simp only [List.getElem?_cons_succ] at hi hj
        exact ih hn' (fun e => hij (by omega)) hi hj
theorem St.ne (h:St H0 H L) (hij:i≠j) (hi:L[i]? = some (some b,B)) (hj:L[j]? = some (some b',B')):b≠b':=aGX h.nodup hij hi hj
theorem Obj.ok.pre {n:Nat} {p:Obj} (h:Obj.ok n H p) (hp:Pre H H'):Obj.ok n H' p:=by
 unfold Obj.ok at h ⊢
 split at h
 ·exact ⟨h.1,hp.blk h.2⟩
 ·exact h
theorem St.new (h:St H0 H L) (hp:Pre H H') (hb:H.length<=b) (hB:blk? H' b=some B):St H0 H' (L++[(some b,B)]):=by
 refine ⟨h.pre.trans hp,?_,?_⟩
 ·intro p hm
  rcases List.mem_append.1 hm with hm | hm
  ·exact (h.own p hm).pre hp
  ·cases List.mem_singleton.1 hm
   exact ⟨Nat.le_trans h.pre.len hb,hB⟩
 ·rw [List.filterMap_append]
  refine List.nodup_append.2 ⟨h.nodup,by simp,?_⟩
  intro x hx y hy
  obtain ⟨p,hp1,hp2⟩:=List.mem_filterMap.1 hx
  have:=h.own p hp1
  unfold Obj.ok at this
  rw [hp2] at this
  have:=blk?_below this.2
  simp at hy
  omega
theorem St.next (h:St H0 H L) (k:St H H' L2):St H0 H' (L++L2):=by
 refine ⟨h.pre.trans k.pre,?_,?_⟩
 ·intro p hm
  rcases List.mem_append.1 hm with hm | hm
  ·exact (h.own p hm).pre k.pre
  ·have:=k.own p hm
   unfold Obj.ok at this ⊢
   split at this
   ·exact ⟨Nat.le_trans h.pre.len this.1,this.2⟩
   ·exact this
 ·rw [List.filterMap_append]
  refine List.nodup_append.2 ⟨h.nodup,k.nodup,?_⟩
  intro x hx y hy
  obtain ⟨p,hp1,hp2⟩:=List.mem_filterMap.1 hx
  obtain ⟨q,hq1,hq2⟩:=List.mem_filterMap.1 hy
  have h1:=h.own p hp1
  have h2:=k.own q hq1
  unfold Obj.ok at h1 h2
  rw [hp2] at h1
  rw [hq2] at h2
  have:=blk?_below h1.2
  omega
def WV:List Bool->List Obj->List Obj
 | true::m,p::l=>p::WV m l
 | false::m,_::l=>WV m l
 | _,_=>[]
theorem IR : ∀ (m : List Bool) (l : List Obj), List.Sublist (WV m l) l
  | [], l => by unfold WV; exact List.nil_sublist l
  | m, [] => by cases m with
    | nil => exact List.nil_sublist _
    | cons x m => cases x <;> exact List.nil_sublist _
  | true :: m, p :: l => (IR m l).cons_cons p
  | false :: m, p :: l => (IR m l).cons p
theorem St.keep (h:St H0 H L) (m:List Bool) (hL:WV m L=L2):St H0 H L2:=by
 subst hL
 have hs:=IR m L
 exact ⟨h.pre,fun p hp=>h.own p (hs.subset hp),List.Nodup.sublist (hs.filterMap _) h.nodup⟩
theorem St.upd (h : St H0 H L) (hi : L[i]? = some (some b, B)) (u : Upd H H' b) (hB : blk? H' b = some B') : St H0 H' (L.set i (some b, B')) := by
  have hlo := h.lo hi
  refine ⟨h.pre.upd u hlo, ?_, ?_⟩
  · intro p hm
    obtain ⟨j, hj, he⟩ := List.mem_iff_getElem.1 hm
    have hj' : (L.set i (some b, B'))[j]? = some p := by rw [List.getElem?_eq_getElem hj, he]
    by_cases hij : j = i
    · subst hij
      have hl : j < L.length := by simpa using hj
      rw [List.getElem?_set_self hl] at hj'
      cases hj'
      exact ⟨hlo, hB⟩
    · rw [List.getElem?_set_ne (fun e => hij e.symm)] at hj'
      have h1 := h.ok hj'
      obtain ⟨pa, pB⟩ := p
      cases pa with
      | none => exact h1
      | some c => exact ⟨h1.1, u.blk (h.ne hij hj' hi) h1.2⟩
  · have : (L.set i (some b, B')).filterMap (·.1) = L.filterMap (·.1) := by
      clear hlo hB u h
      induction L generalizing i with
      | nil => rfl
      | cons p L ih =>
        cases i with
        | zero => simp only [List.getElem?_cons_zero, Option.some.injEq] at hi; subst hi; rfl
        | succ i => simp only [List.getElem?_cons_succ] at hi; simp only [List.set_cons_succ, List.filterMap_cons, ih hi]
    rw [this]; exact h.nodup
end
section
variable {P:Program} {fl:Nat} {t:aC} {H0 H:aB} {L:List Obj} {ops:Array Oper} {g:List Bool} {lo:List Oper} {o:Oper} {K:aC->aB->Prop} {i j b:Nat} {B:Blk} {a:Option Nat} {k:IntKind} {l:List Int} {ex:Bool}
theorem Z4 (hS : St H0 H L) {es : Nat} {cs : List Value} (hi : L[i]? = some (a, B)) (hc : cs = B.cells) {n c : Nat} (hes : 0 < es) (hn : cs.length = n * es) (hno : cs.all (fun v => !sO v) = true) : iQ H es n (.slice (a.map fun b => ⟨b, 0, none⟩) n c) = some cs := by
  subst hc
  cases a with
  | none =>
    have h0 : B.cells = [] := hS.ok hi
    rw [h0] at hn ⊢
    simp only [Option.map_none, iQ]
    have hz : n = 0 := by
      have h1 : 0 = n * es := hn
      rcases Nat.mul_eq_zero.1 h1.symm with h | h <;> omega
    rw [if_pos hz]
  | some b =>
    have hg := hS.get hi
    simp only [Option.map_some, iQ]
    split
    · rename_i h0
      rw [h0] at hn
      rw [List.length_eq_zero_iff.1 hn]
    · simp only [kY, hg]
      have ht : (B.cells.drop 0).take (n * es) = B.cells := by rw [<- hn]; simp
      rw [ht, if_pos ⟨by omega, hno⟩]
theorem St.kill (hS : St H0 H L) (hfl : fl <= H0.length) {cs : List Value} {es : Nat} {ex0 : Bool} (hi : L[i]? = some (a, ⟨cs, es, ex0, true⟩)) :
    ∃ H', vA fl H es (a.map fun b => ⟨b, 0, none⟩) = some H' /\ Pre H0 H' /\ H'.length = H.length /\ ∀ j p, j ≠ i -> L[j]? = some p -> Obj.ok H0.length H' p := by
  cases a with
  | none => exact ⟨H, rfl, hS.pre, rfl, fun j p _ hj => hS.ok hj⟩
  | some b =>
    have hg := hS.get hi
    have hlo := hS.lo hi
    have h1 : H[b]? = some ⟨cs, es, ex0, true⟩ := by
      unfold blk? at hg
      cases hb : H[b]? with
      | none => simp [hb] at hg
      | some C =>
        simp only [hb] at hg
        split at hg
        · exact hg
        · cases hg
    cases ex0 with
    | true => exact ⟨H, by simp only [vA, Option.map_some, h1, if_true], hS.pre, rfl, fun j p _ hj => hS.ok hj⟩
    | false =>
    have hu : Upd H (H.set b ⟨cs, es, false, false⟩) b := ⟨by simp, fun i hi => List.getElem?_set_ne (fun e => hi e.symm)⟩
    refine ⟨H.set b ⟨cs, es, false, false⟩, ?_, hS.pre.upd hu hlo, by simp, ?_⟩
    · simp only [vA, Option.map_some, h1]
      rw [if_neg (by simp), if_pos ⟨trivial, trivial, by omega⟩]
    · intro j p hj hp
      have h2 := hS.ok hp
      obtain ⟨pa, pB⟩ := p
      cases pa with
      | none => exact h2
      | some c => exact ⟨h2.1, hu.blk (hS.ne hj hp hi) h2.2⟩
theorem GV {x:Obj}:∀ {L:List Obj} {i:Nat},∀ b∈(L.set i x).filterMap (·.1),b∈L.filterMap (·.1)\/x.1=some b:=by
 intro L i b hb
 obtain ⟨p,hp,he⟩:=List.mem_filterMap.1 hb
 rcases List.mem_or_eq_of_mem_set hp with h | h
 ·exact .inl (List.mem_filterMap.2 ⟨p,h,he⟩)
 ·subst h; exact .inr he
theorem JP {n : Nat} {B : Blk} : ∀ {L : List Obj}, (L.filterMap (·.1)).Nodup -> (∀ b ∈ L.filterMap (·.1), b < n) -> ∀ i, ((L.set i (some n, B)).filterMap (·.1)).Nodup
  | [], h, _, i => by simp
  | (pa, pB) :: L, h, hn, 0 => by
    simp only [List.set_cons_zero, List.filterMap_cons]
    refine List.nodup_cons.2 ⟨fun hm => ?_, ?_⟩
    · have : n ∈ List.filterMap (·.1) ((pa, pB) :: L) := by
        cases pa with
        | none => simpa using hm
        | some c => simp only [List.filterMap_cons]; exact List.mem_cons_of_mem _ hm
      exact Nat.lt_irrefl _ (hn n this)
    · cases pa with
      | none => simpa using h
      | some c => simp only [List.filterMap_cons] at h; exact (List.nodup_cons.1 h).2
  | (pa, pB) :: L, h, hn, i + 1 => by
    simp only [List.set_cons_succ]
    cases pa with
    | none =>
      simp only [List.filterMap_cons] at h hn ⊢
      exact JP h hn i
    | some c =>
      simp only [List.filterMap_cons] at h hn ⊢
      obtain ⟨h1, h2⟩ := List.nodup_cons.1 h
      refine List.nodup_cons.2 ⟨fun hm => ?_, JP h2 (fun b hb => hn b (List.mem_cons_of_mem _ hb)) i⟩
      rcases GV _ hm with h3 | h3
      · exact h1 h3
      · have : n = c := Option.some.inj h3
        exact Nat.lt_irrefl _ (this ▸ hn c List.mem_cons_self)
theorem St.below (hS:St H0 H L):∀ b∈L.filterMap (·.1),b<H.length:=by
 intro b hb
 obtain ⟨p,hp,he⟩:=List.mem_filterMap.1 hb
 have:=hS.own p hp
 unfold Obj.ok at this
 rw [he] at this
 exact blk?_below this.2
theorem St.append (hS : St H0 H L) (hfl : fl <= H0.length) {e es eb n m : Nat} {cs new : List Value} {x : Value} {ex0 : Bool} (hm0 : 0 < m \/ ex0 = false) (hi : L[i]? = some (a, ⟨cs, es, ex0, true⟩)) (hes : 0 < es) (hn : cs.length = n * es) (hno : cs.all (fun v => !sO v) = true)
    (hx : iQ H es m x = some new) (hm : new.length = m * es) (h1 : new.all Value.oneCell' = true) (hz : (j9 P e).map List.length = some es) (h46 : (n + m) * eb <= 70368744177664) (h46' : n + m <= 70368744177664) :
    ∃ a' H', lO P fl e es eb (a.map fun b => ⟨b, 0, none⟩) n n m x H = some (sl a' (n + m), H') /\ St H0 H' (L.set i (a', ⟨cs ++ new, es, false, true⟩)) := by
  have e46 : 2 ^ 47 = 140737488355328 := by decide
  unfold lO
  simp only [hx]
  have hm0' := hm0
  clear hm0
  by_cases hm0 : m = 0
  · subst hm0
    rcases hm0' with h | rfl
    · omega
    have hnew : new = [] := List.length_eq_zero_iff.1 (by simpa using hm)
    subst hnew
    refine ⟨a, H, ?_, ?_⟩
    · rw [if_pos (by omega)]
      cases a with
      | none => rfl
      | some b => simp [storeAt, sl]
    · rw [List.append_nil]
      have : L.set i (a, ⟨cs, es, false, true⟩) = L := by
        apply List.ext_getElem?
        intro j
        by_cases hj : i = j
        · subst hj
          rw [List.getElem?_set_self (List.getElem?_eq_some_iff.1 hi).1, hi]
        · rw [List.getElem?_set_ne hj]
      rw [this]; exact hS
  · rw [if_neg (by omega), if_pos ⟨by rw [e46]; omega, by rw [e46]; omega, h1, hz⟩]
    rw [Z4 hS hi rfl hes hn hno]
    obtain ⟨H', hk, hp, hl, ho⟩ := hS.kill (fl := fl) hfl hi
    simp only [hk]
    refine ⟨some H'.length, H' ++ [⟨cs ++ new, es, false, true⟩], rfl, hp.trans (Pre.push _ _), ?_, ?_⟩
    · intro p hm
      obtain ⟨j, hj, he⟩ := List.mem_iff_getElem.1 hm
      have hj' : (L.set i (some H'.length, ⟨cs ++ new, es, false, true⟩))[j]? = some p := by rw [List.getElem?_eq_getElem hj, he]
      by_cases hij : j = i
      · subst hij
        have hl : j < L.length := by simpa using hj
        rw [List.getElem?_set_self hl] at hj'
        cases hj'
        exact ⟨hp.len, wC H' _ rfl⟩
      · rw [List.getElem?_set_ne (fun e => hij e.symm)] at hj'
        exact (ho j p hij hj').pre (Pre.push _ _)
    · refine JP hS.nodup (fun b hb => ?_) i
      rw [hl]; exact hS.below b hb
theorem St.pick (h : St H0 H L) (is : List Nat) (hn : is.Nodup) {L2 : List Obj} (hL : is.filterMap (fun i => L[i]?) = L2) : St H0 H L2 := by
  subst hL
  refine ⟨h.pre, fun p hp => ?_, ?_⟩
  · obtain ⟨i, _, hi⟩ := List.mem_filterMap.1 hp
    exact h.ok hi
  · induction is with
    | nil => simp
    | cons i is ih =>
      obtain ⟨h1, h2⟩ := List.nodup_cons.1 hn
      simp only [List.filterMap_cons]
      cases hi : L[i]? with
      | none => simpa using ih h2
      | some p =>
        obtain ⟨pa, pB⟩ := p
        cases pa with
        | none => simpa using ih h2
        | some b =>
          simp only [List.filterMap_cons]
          refine List.nodup_cons.2 ⟨fun hm => ?_, ih h2⟩
          obtain ⟨q, hq, hqb⟩ := List.mem_filterMap.1 hm
          obtain ⟨j, hj, hjq⟩ := List.mem_filterMap.1 hq
          obtain ⟨qa, qB⟩ := q
          cases hqb
          exact h.ne (fun (e : i = j) => h1 (by rw [e]; exact hj)) hi hjq rfl
theorem St.nil (h:St H0 H L) (es:Nat) (ex al:Bool):St H0 H (L++[(none,⟨[],es,ex,al⟩)]):=by
 refine ⟨h.pre,fun p hp => ?_,?_⟩
 ·rcases List.mem_append.1 hp with hp | hp
  ·exact h.own p hp
  ·cases List.mem_singleton.1 hp; exact rfl
 ·rw [List.filterMap_append]; simpa using h.nodup
end
end Go.Mach
