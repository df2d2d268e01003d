/- Part of the proof. No condition. -/
import Derived.Test.YtcfpfefadlnmcaaGreatZ38
import Derived.Test.YtcfpfefadlnmcaaGreatZ37
import Derived.Test.YtcfpfefadlnmcaaGreatZ36
import Derived.Test.YtcfpfefadlnmcaaGreatYVTold
namespace Go.Proofs.YtcfpfefadlnmcaaGreat
open Go.Mach Go.RowKit
set_option maxRecDepth 100000
set_option linter.unusedVariables false
set_option linter.unusedSimpArgs false
def zV (a:Int):Bool:=decide (a < -1048576)||decide (1048576<a)
theorem aDw {a:Int} {Q:Bool->Prop} (h:Q (zV a)):AC a Q:=⟨h⟩
theorem YM {l : List Int} {Q : Bool -> Prop} (hl : l.length <= 10000000000000) (h : Q (l.any zV)) : aQ l Q := by
  refine ⟨⟨⟨?_⟩⟩⟩
  refine Loop.range (B := bC l (l.length : Int) _ _) l.length (fun i => (i : Int)) (fun i => ∀ j, j < i -> zV (l.getD j 0) = false) (fun j hj => absurd hj (by omega)) ?_ ?_
  · intro i hi hI X hX
    unfold bC
    rw [if_pos (decide_eq_true (show (i : Int) < (l.length : Int) by omega))]
    refine ⟨by omega, aDw ?_⟩
    simp only [Int.toNat_natCast]
    cases hb : zV (l.getD i 0) with
    | true =>
      rw [if_pos rfl]
      have : l.any zV = true := by
        rw [List.any_eq_true]
        refine ⟨l[i], List.getElem_mem _, ?_⟩
        rw [List.getD_eq_getElem?_getD, List.getElem?_eq_getElem hi] at hb
        exact hb
      rw [this] at h
      rw [decide_eq_true (show (0 : Int) <= (i : Int) by omega)]
      exact h
    | false =>
      rw [if_neg (by simp), aA _ (by omega) (by omega)]
      refine hX fun j hj => ?_
      by_cases hji : j = i
      · subst hji; exact hb
      · exact hI j (by omega)
  · intro hI X
    unfold bC
    rw [if_neg (by simp)]
    have : l.any zV = false := by
      rw [List.any_eq_false]
      intro x hx
      obtain ⟨j, hj, rfl⟩ := List.mem_iff_getElem.1 hx
      have := hI j hj
      rw [List.getD_eq_getElem?_getD, List.getElem?_eq_getElem hj] at this
      simpa using this
    rw [this] at h
    exact h
def aAq (p:Prm):Bool :=
 (((IntKind.i64.wrap ((IntKind.i64.wrap ((IntKind.i64.wrap ((IntKind.i64.wrap ((p.1.1.length:Int)+(p.1.2.2.length:Int)))+(p.2.1.length:Int)))+(p.2.2.1.length:Int)))+(p.2.2.2.2.length:Int)))==0)&&(p.1.2.1==0))&&(p.2.2.2.1==0)
def okP (x:Lay) (dn:List Int×Int) (p:Prm):Bool :=
 if dn.1=[] then (aAq p && !(x.1==1)) && !(x.1==2)
 else ((((cP p.1&&cP p.2.2)&&decide (p.1.1=dn.1))&&decide (p.2.2.1=[dn.2]))&&((p.2.1.length:Int)==(p.1.2.2.length:Int))) && !(p.2.1.any zV)
def VJ (m:Mdl) (l:List Prm):Bool:=(List.range l.length).all fun i=>okP (m.2.getD i bA) (yY m ((i:Int)+1)) (l.getD i fP)
def vJ (m:Mdl) (l:List Prm):Bool:=(((aF m).2.2==0)&&((l.length:Int)==(m.2.length:Int)))&&VJ m l
theorem aGs {x : Lay} {dn : List Int × Int} {p : Prm} {s : Int} {A B : Prop} (hA : okP x dn p = true -> A) (hB : okP x dn p = false -> B) {nx : Int -> Prop} (hn : nx (IntKind.i64.wrap (s + 1)) = A) {K1 : Unit -> Prop} (hK : K1 () = B) :
    nz dn.1 (mM p (fun (r3 : Bool) => if (((!r3) || (x.1 == 1)) || (x.1 == 2)) = true then K1 () else eM s (fun y4 => nx y4)))
      (nq dn.1 (mM p (fun (r3 : Bool) => if (((!r3) || (x.1 == 1)) || (x.1 == 2)) = true then K1 () else eM s (fun y4 => nx y4)))
        (bE p.1 (fun (r7 : Bool) => jn (fun (v8 : Bool) => jn (fun (v11 : Bool) => jn (fun (v14 : Bool) => jn (fun (v17 : Bool) => if v17 = true then K1 () else eM s (fun y20 => nx y20)) (fun J18 => if (v14 || ((p.2.1.length : Int) != (p.1.2.2.length : Int))) = true then J18 true else aQ p.2.1 (fun (r19 : Bool) => J18 r19))) (fun J15 => if v11 = true then J15 true else eO p.2.2.1 [dn.2] (fun (r16 : Bool) => J15 (!r16)))) (fun J12 => if v8 = true then J12 true else eO p.1.1 dn.1 (fun (r13 : Bool) => J12 (!r13)))) (fun J9 => if (!r7) = true then J9 true else bE p.2.2 (fun (r10 : Bool) => J9 (!r10)))))) := by
  subst hn hK
  unfold okP at hA hB
  refine ⟨fun e => ?_, fun e => ⟨fun e2 => absurd e2 e, kA ?_⟩⟩
  · rw [if_pos e] at hA hB
    refine ⟨?_⟩
    show if (((!aAq p) || (x.1 == 1)) || (x.1 == 2)) = true then K1 () else _
    cases h1 : ((aAq p && !(x.1 == 1)) && !(x.1 == 2)) with
    | true =>
      have := hA h1
      rw [if_neg (by simpa [and_assoc] using h1)]
      exact ⟨this⟩
    | false =>
      rw [if_pos]
      · exact hB h1
      · revert h1
        cases aAq p <;> cases (x.1 == 1) <;> cases (x.1 == 2) <;> simp
  · rw [if_neg e] at hA hB
    unfold jn
    dsimp only
    have no : (((((cP p.1 && cP p.2.2) && decide (p.1.1 = dn.1)) && decide (p.2.2.1 = [dn.2])) && ((p.2.1.length : Int) == (p.1.2.2.length : Int))) && !(p.2.1.any zV)) = false -> K1 () := hB
    cases m1 : cP p.1 with
    | false =>
      rw [m1] at no
      simp only [Bool.not_false, Bool.true_or, if_true]
      exact no (by simp)
    | true =>
      rw [if_neg (by simp)]
      refine kA ?_
      cases m2 : cP p.2.2 with
      | false =>
        rw [m2] at no
        simp only [Bool.not_false, Bool.true_or, if_true]
        exact no (by simp)
      | true =>
        rw [if_neg (by simp)]
        obtain ⟨l1, l2, _⟩ := eC m1
        obtain ⟨k1, k2, _⟩ := eC m2
        refine DD (by omega) ?_
        by_cases e1 : p.1.1 = dn.1
        rotate_left
        · rw [decide_eq_false e1]
          simp only [Bool.not_false, Bool.true_or, if_true]
          exact no (by simp [e1])
        rw [decide_eq_true e1, if_neg (by simp)]
        refine DD (by omega) ?_
        by_cases e2 : p.2.2.1 = [dn.2]
        rotate_left
        · rw [decide_eq_false e2]
          simp only [Bool.not_false, Bool.true_or, if_true]
          exact no (by simp [e2])
        rw [decide_eq_true e2]
        by_cases e3 : p.2.1.length = p.1.2.2.length
        rotate_left
        · rw [if_pos (by simp; omega), if_pos rfl]
          refine no ?_
          have : ((p.2.1.length : Int) == (p.1.2.2.length : Int)) = false := by simp; omega
          rw [this]
          simp
        rw [if_neg (by simp [e3])]
        refine YM (by omega) ?_
        cases hg : p.2.1.any zV with
        | true =>
          rw [if_pos rfl]
          exact no (by rw [hg]; simp)
        | false =>
          rw [if_neg (by simp)]
          refine ⟨hA ?_⟩
          rw [m1, m2, decide_eq_true e1, decide_eq_true e2, hg]
          simp [e3]
theorem aCv {m : Mdl} {l : List Prm} {Q : Bool -> Prop} (hl : m.2.length <= 10000000000000) (h : Q (vJ m l)) : zB m l Q := by
  refine ⟨NU hl ?_⟩
  unfold vJ at h
  show if (((aF m).2.2 != 0) || ((l.length : Int) != (m.2.length : Int))) = true then Q false else _
  by_cases h1 : (aF m).2.2 = 0 /\ l.length = m.2.length
  rotate_left
  · have e : (((aF m).2.2 == 0) && ((l.length : Int) == (m.2.length : Int))) = false := by
      rw [Bool.eq_false_iff]
      intro hh
      simp only [Bool.and_eq_true, beq_iff_eq] at hh
      exact h1 ⟨hh.1, by omega⟩
    rw [e] at h
    rw [if_pos]
    · exact h
    · simp only [Bool.or_eq_true, bne_iff_ne, ne_eq]
      by_cases e1 : (aF m).2.2 = 0
      · right; intro e2; exact h1 ⟨e1, by omega⟩
      · exact .inl e1
  have e : (((aF m).2.2 == 0) && ((l.length : Int) == (m.2.length : Int))) = true := by simp [h1.1, h1.2]
  rw [e, Bool.true_and] at h
  rw [if_neg (by simp [h1.1, h1.2])]
  obtain ⟨hm, hok⟩ := q9 h1.1
  have hlen := (jX hm).2.1
  refine ⟨?_⟩
  refine Loop.range (B := oV l (l.length : Int) m.1.1 m.1.2.1 m.1.2.2 m.2 (fun _ => Q true) (fun _ => Q false)) l.length (fun i => (i : Int)) (fun i => ∀ j, j < i -> okP (m.2.getD j bA) (yY m ((j : Int) + 1)) (l.getD j fP) = true) (fun j hj => absurd hj (by omega)) ?_ ?_
  · intro i hi hI X hX
    unfold oV
    rw [if_pos (decide_eq_true (show (i : Int) < (l.length : Int) by omega))]
    simp only [Int.toNat_natCast]
    have hw : IntKind.i64.wrap ((i : Int) + 1) = (i : Int) + 1 := aA _ (by omega) (by omega)
    refine ⟨by omega, ?_⟩
    have hq : ∀ d : List Int × Int, d = yY m ((i : Int) + 1) -> nz d.1 (ck ((0 : Int) <= (i : Int) /\ (i : Int) < (m.2.length : Int)) (mM (l.getD i fP) (fun (r3 : Bool) => if (((!r3) || ((m.2.getD i bA).1 == 1)) || ((m.2.getD i bA).1 == 2)) = true then Q false else eM (i : Int) (fun y4 => X y4))))
      (nq d.1 (ck ((0 : Int) <= (i : Int) /\ (i : Int) < (m.2.length : Int)) (mM (l.getD i fP) (fun (r3 : Bool) => if (((!r3) || ((m.2.getD i bA).1 == 1)) || ((m.2.getD i bA).1 == 2)) = true then Q false else eM (i : Int) (fun y4 => X y4))))
        (bE (l.getD i fP).1 (fun (r7 : Bool) => jn (fun (v8 : Bool) => jn (fun (v11 : Bool) => jn (fun (v14 : Bool) => jn (fun (v17 : Bool) => if v17 = true then Q false else eM (i : Int) (fun y20 => X y20)) (fun J18 => if (v14 || (((l.getD i fP).2.1.length : Int) != ((l.getD i fP).1.2.2.length : Int))) = true then J18 true else aQ (l.getD i fP).2.1 (fun (r19 : Bool) => J18 r19))) (fun J15 => if v11 = true then J15 true else eO (l.getD i fP).2.2.1 [d.2] (fun (r16 : Bool) => J15 (!r16)))) (fun J12 => if v8 = true then J12 true else eO (l.getD i fP).1.1 d.1 (fun (r13 : Bool) => J12 (!r13)))) (fun J9 => if (!r7) = true then J9 true else bE (l.getD i fP).2.2 (fun (r10 : Bool) => J9 (!r10)))))) := by
      intro d hd
      have key := aGs (x := m.2.getD i bA) (dn := d) (p := l.getD i fP) (s := (i : Int)) (A := X (IntKind.i64.wrap ((i : Int) + 1))) (B := Q false) (nx := X) (K1 := fun _ => Q false) (fun hk => by
        rw [hw]
        refine hX fun j hj => ?_
        by_cases hji : j = i
        · subst hji; rw [<- hd]; exact hk
        · exact hI j (by omega)) (fun hk => by
        have : VJ m l = false := by
          unfold VJ
          rw [List.all_eq_false]
          exact ⟨i, List.mem_range.2 hi, by rw [<- hd, hk]; simp⟩
        rw [this] at h
        exact h) rfl rfl
      exact ⟨fun e => ⟨by omega, key.1 e⟩, fun e => ⟨fun e2 => absurd e2 e, (key.2 e).2⟩⟩
    rw [hw]
    exact aF8 hl (fun _ => hq _ rfl) (fun _ => hq _ rfl)
  · intro hI X
    unfold oV
    rw [if_neg (by simp)]
    have : VJ m l = true := by
      unfold VJ
      rw [List.all_eq_true]
      intro j hj
      exact hI j (List.mem_range.1 hj)
    rw [this] at h
    exact h
theorem aAY {a lo hi:Int} {Q:Bool->Prop} (h:Q (inP a lo hi)):rP a lo hi Q:=⟨h⟩
def S6 (a b c:Int):Int:=if ((inP a 0 1000000&&inP b 0 12)&&inP c 0 15)=true then a*1024+b*16+c else 0
theorem aEq {a b c : Int} {Q : Int -> Prop} (h : Q (S6 a b c)) : m6 a b c Q := by
  refine ⟨aAY ?_⟩
  unfold jn
  dsimp only
  unfold S6 at h
  cases h1 : inP a 0 1000000 with
  | false =>
    rw [h1] at h
    simp only [Bool.not_false, if_true]
    exact h
  | true =>
    rw [h1] at h
    rw [if_neg (by simp)]
    refine aAY ?_
    cases h2 : inP b 0 12 with
    | false =>
      rw [h2] at h
      simp only [Bool.not_false, if_true]
      exact h
    | true =>
      rw [h2] at h
      rw [if_neg (by simp)]
      refine aAY ?_
      cases h3 : inP c 0 15 with
      | false =>
        rw [h3] at h
        rw [if_pos (by rfl)]
        exact h
      | true =>
        rw [h3, if_pos (by rfl)] at h
        rw [if_neg (by simp)]
        unfold inP at h1 h2 h3
        simp only [Bool.and_eq_true, decide_eq_true_eq] at h1 h2 h3
        rw [aA (a * 1024) (by omega) (by omega), aA (b * 16) (by omega) (by omega), aA (a * 1024 + b * 16) (by omega) (by omega), aA _ (by omega) (by omega)]
        have : IntKind.u64.wrap (a * 1024 + b * 16 + c) = a * 1024 + b * 16 + c := by
          simp only [IntKind.wrap, IntKind.bits, IntKind.signed]
          simp
          omega
        rw [this]
        exact h
end Go.Proofs.YtcfpfefadlnmcaaGreat

namespace Go.Proofs.YtcfpfefadlnmcaaGreat
open Go.Mach
set_option maxRecDepth 100000
set_option linter.unusedVariables false
set_option linter.unusedSimpArgs false
def Prm8 (p:Prm):Prop:=All8 p.1.2.2/\All8 p.2.2.2.2
def Ten8 (l:List T3):Prop:=∀ t∈l,All8 t.2.2
theorem Ten8.at_ {l:List T3} (h:Ten8 l) (i:Nat):All8 (l.getD i Z3).2.2:=by
 rw [List.getD_eq_getElem?_getD]
 cases e:l[i]? with
 | none=>intro y hy; cases hy
 | some t=>exact h t (List.mem_of_getElem? e)
theorem Prm8.at_ {l:List Prm} (h:∀ p∈l,Prm8 p) (i:Nat):Prm8 (l.getD i fP):=by
 rw [List.getD_eq_getElem?_getD]
 cases e:l[i]? with
 | none=>exact ⟨fun y hy=>(by cases hy),fun y hy=>(by cases hy)⟩
 | some t=>exact h t (List.mem_of_getElem? e)
def vO (l:List T3):T3:=l.getD (l.length-1) Z3
noncomputable def ID (x:Lay) (p:Prm) (l:List T3):T3×Bool×Int :=
 if (x.1==1)=true then ((aEJ (vO l) p.1 p.2.2).1,true,(aEJ (vO l) p.1 p.2.2).2)
 else if (x.1==2)=true then ((aAb (vO l) p.1 p.2.2 x.2.2.2.1 x.2.2.2.2.1).1,true,(aAb (vO l) p.1 p.2.2 x.2.2.2.1 x.2.2.2.2.1).2)
 else if (x.1==4)=true then ((aEY (vO l) x.2.2.1 x.2.2.2.1).1,true,(aEY (vO l) x.2.2.1 x.2.2.2.1).2)
 else if (x.1==7)=true then ((addF (vO l) (l.getD x.2.2.2.2.2.1.toNat Z3)).1,true,(addF (vO l) (l.getD x.2.2.2.2.2.1.toNat Z3)).2)
 else (Z3,false,0)
theorem aAS {l:List T3} (h1:l≠[]) (h2:l.length<=1000):IntKind.i64.wrap ((l.length:Int)-1)=((l.length-1:Nat):Int)/\0<l.length:=by
 have:=List.length_pos_iff.2 h1
 exact ⟨by rw [aA _ (by omega) (by omega)]; omega,this⟩
theorem aF5 {x : Lay} {p : Prm} {l : List T3} {Q : T3 × Bool × Int -> Prop} (h1 : l ≠ []) (h2 : l.length <= 1000) (h8 : Ten8 l) (hp : Prm8 p) (hx : x.1 = 7 -> 0 <= x.2.2.2.2.2.1 /\ x.2.2.2.2.2.1 < (l.length : Int)) (h : Q (ID x p l)) : A4 x p l Q := by
  refine ⟨?_⟩
  obtain ⟨e, hl⟩ := aAS h1 h2
  rw [e]
  simp only [Int.toNat_natCast]
  refine ⟨by omega, ?_⟩
  unfold ID vO at h
  split
  · rename_i e1
    rw [if_pos e1] at h
    exact aGV (h8.at_ _) hp.1 hp.2 h
  · rename_i e1
    rw [if_neg e1] at h
    split
    · rename_i e2
      rw [if_pos e2] at h
      exact aGD (h8.at_ _) hp.1 hp.2 h
    · rename_i e2
      rw [if_neg e2] at h
      split
      · rename_i e4
        rw [if_pos e4] at h
        exact aGL h
      · rename_i e4
        rw [if_neg e4] at h
        split
        · rename_i e7
          rw [if_pos e7] at h
          exact ⟨hx (by simpa using e7), aCL h⟩
        · rename_i e7
          rw [if_neg e7] at h
          exact h
noncomputable def iV (x:Lay) (p:Prm) (l:List T3) (s t:Int):T3×List Int×Int :=
 if ((ID x p l).2.2 != 0)=true then (Z3,[],(ID x p l).2.2)
 else if (ID x p l).2.1=true then ((qE (ID x p l).1 8 s t).1,[],(qE (ID x p l).1 8 s t).2)
 else if (x.1==3)=true then XJ (vO l) x.2.2.1 x.2.2.2.1
 else if (x.1==5)=true then ((GR (vO l)).1,[],(GR (vO l)).2)
 else ((HN (vO l)).1,[],(HN (vO l)).2)
theorem LW {x : Lay} {p : Prm} {l : List T3} {s t : Int} {Q : T3 × List Int × Int -> Prop} (h1 : l ≠ []) (h2 : l.length <= 1000) (h8 : Ten8 l) (hp : Prm8 p) (hx : x.1 = 7 -> 0 <= x.2.2.2.2.2.1 /\ x.2.2.2.2.2.1 < (l.length : Int)) (h : Q (iV x p l s t)) : xI x p l s t Q := by
  refine ⟨?_⟩
  refine aF5 h1 h2 h8 hp hx ?_
  obtain ⟨e, hl⟩ := aAS h1 h2
  rw [e]
  simp only [Int.toNat_natCast]
  unfold iV vO at h
  split
  · rename_i e0
    rw [if_pos e0] at h; exact h
  · rename_i e0
    rw [if_neg e0] at h
    split
    · rename_i e1
      rw [if_pos e1] at h
      exact aAZ h
    · rename_i e1
      rw [if_neg e1] at h
      refine ⟨by omega, ?_⟩
      split
      · rename_i e2
        rw [if_pos e2] at h
        exact aGn h
      · rename_i e2
        rw [if_neg e2] at h
        split
        · rename_i e3
          rw [if_pos e3] at h
          exact aF6 ⟨h⟩
        · rename_i e3
          rw [if_neg e3] at h
          exact aGG ⟨h⟩
theorem CP (x:Int) : -128<=IntKind.i8.wrap x/\IntKind.i8.wrap x<=127:=by
 simp only [IntKind.wrap,IntKind.bits,IntKind.signed]
 simp
 split <;> omega
theorem aCc {a:T3} {b s t:Int}:All8 (qE a b s t).1.2.2:=by
 unfold qE
 split
 ·intro y hy; cases hy
 split
 ·intro y hy; cases hy
 ·intro y hy
  unfold KP at hy
  obtain ⟨i,_,rfl⟩:=List.mem_map.1 hy
  exact CP _
theorem aH3 {x:T3} {k s:Int} (h:All8 x.2.2):All8 (XJ x k s).1.2.2:=by
 unfold XJ
 split
 ·intro y hy; cases hy
 ·intro y hy
  obtain ⟨a,_,rfl⟩:=List.mem_map.1 hy
  exact h.at_ _
theorem aGj {x:T3} (h:All8 x.2.2):All8 (GR x).1.2.2:=by
 unfold GR
 split
 ·intro y hy
  obtain ⟨a,ha,rfl⟩:=List.mem_map.1 hy
  have:=h a ha
  unfold aP
  split <;> omega
 ·intro y hy; cases hy
theorem aGP {x:T3} (h:All8 x.2.2):All8 (HN x).1.2.2:=by
 unfold HN GB
 split
 ·split
  ·split
   ·exact h
   ·intro y hy; cases hy
  ·intro y hy; cases hy
 ·intro y hy; cases hy
theorem aDS {x:Lay} {p:Prm} {l:List T3} {s t:Int} (h8:Ten8 l):All8 (iV x p l s t).1.2.2:=by
 unfold iV
 split
 ·intro y hy; cases hy
 split
 ·exact aCc
 split
 ·exact aH3 (h8.at_ _)
 split
 ·exact aGj (h8.at_ _)
 ·exact aGP (h8.at_ _)
abbrev Act:=List T3×List (List Int)
noncomputable def q5 (ps : List Prm) (s st : Int) : List Lay -> Nat -> Act -> Act × Int × Int
  | [], _, a => (a, 0, 0)
  | x :: r, i, a =>
    if ((iV x (ps.getD i fP) a.1 s (S6 st ((i : Int) + 1) 0)).2.2 != 0) = true then (([], []), (i : Int) + 1, (iV x (ps.getD i fP) a.1 s (S6 st ((i : Int) + 1) 0)).2.2)
    else q5 ps s st r (i + 1) (a.1 ++ [(iV x (ps.getD i fP) a.1 s (S6 st ((i : Int) + 1) 0)).1], a.2 ++ [(iV x (ps.getD i fP) a.1 s (S6 st ((i : Int) + 1) 0)).2.1])
noncomputable def EI (m:Mdl) (ps:List Prm) (x:T3) (s st:Int):Act×Int×Int :=
 if ((!inP st 0 1000000 || !vJ m ps) || !cP x)=true then (([],[]),0,1)
 else if (((x.1.length:Int) != 4) || !decide (x.1.drop 1=inL m))=true then (([],[]),0,2)
 else q5 ps s st m.2 0 ([x],[[]])
theorem VZ {m:Mdl} {ps:List Prm} (h:vJ m ps=true):qG m=true/\ps.length=m.2.length:=by
 unfold vJ at h
 simp only [Bool.and_eq_true,beq_iff_eq] at h
 exact ⟨(q9 h.1.1).1,by omega⟩
theorem aDh {m : Mdl} {ps : List Prm} {s st : Int} {Q : Act × Int × Int -> Prop} (hm : qG m = true) (hl : ps.length = m.2.length) (hp : ∀ p ∈ ps, Prm8 p) {x : T3} (hx : All8 x.2.2) (h : Q (q5 ps s st m.2 0 ([x], [[]]))) :
    uT ps s st m.2 (m.2.length : Int) (fun y => Q ((y.1, y.2), 0, 0)) (fun y => Q (([], []), y.1, y.2)) (0, [x], [[]]) := by
  refine ⟨?_⟩
  obtain ⟨_, ⟨k1, k2⟩, k3⟩ := jX hm
  refine Loop.rangeI (B := nF ps s st m.2 (m.2.length : Int) (fun y => Q ((y.1, y.2), 0, 0)) (fun y => Q (([], []), y.1, y.2))) m.2.length
    (fun i z => z.1 = (i : Int) /\ z.2.1.length = i + 1 /\ z.2.2.length = i + 1 /\ Ten8 z.2.1 /\ Q (q5 ps s st (m.2.drop i) i (z.2.1, z.2.2)))
    ⟨rfl, rfl, rfl, (fun t ht => by rw [List.mem_singleton.1 ht]; exact hx), by rw [List.drop_zero]; exact h⟩ ?_ ?_
  · rintro i hi ⟨z1, z2, z3⟩ ⟨rfl, e1, e2, h8, hq⟩ X hX
    unfold nF
    dsimp only at e1 e2 h8 hq ⊢
    rw [if_pos (decide_eq_true (show (i : Int) < (m.2.length : Int) by omega))]
    refine ⟨by omega, by omega, ?_⟩
    rw [aA ((i : Int) + 1) (by omega) (by omega)]
    simp only [Int.toNat_natCast]
    rw [List.drop_eq_getElem_cons hi] at hq
    have eg : m.2.getD i bA = m.2[i] := by rw [List.getD_eq_getElem?_getD, List.getElem?_eq_getElem hi]; rfl
    rw [<- eg] at hq
    refine aEq (LW (by intro e; rw [e] at e1; cases e1) (by omega) h8 (Prm8.at_ hp i) ?_ ?_)
    · intro h7
      have := zU (k3 i hi) h7
      rw [aA ((i : Int) - 1) (by omega) (by omega)] at this
      have h0 : 0 <= (m.2.getD i bA).2.2.2.2.2.1 := this.1
      have h1 : (m.2.getD i bA).2.2.2.2.2.1 <= (i : Int) - 1 := this.2
      exact ⟨h0, by show (m.2.getD i bA).2.2.2.2.2.1 < _; rw [e1]; omega⟩
    · unfold q5 at hq
      by_cases he : ((iV (m.2.getD i bA) (ps.getD i fP) z2 s (S6 st ((i : Int) + 1) 0)).2.2 != 0) = true
      · rw [if_pos he] at hq
        rw [if_pos he]
        exact hq
      · rw [if_neg he] at hq
        rw [if_neg he]
        refine ⟨by simp; omega, by simp; omega, hX _ ⟨rfl, by simp [e1], by simp [e2], ?_, hq⟩⟩
        intro t ht
        rcases List.mem_append.1 ht with ht | ht
        · exact h8 t ht
        · rw [List.mem_singleton.1 ht]
          exact aDS h8
  · rintro ⟨z1, z2, z3⟩ ⟨rfl, e1, e2, h8, hq⟩ X
    unfold nF
    dsimp only at hq ⊢
    rw [if_neg (by simp)]
    rw [List.drop_length] at hq
    exact hq
theorem aEu {m : Mdl} {ps : List Prm} {x : T3} {s st : Int} {Q : Act × Int × Int -> Prop} (hl : m.2.length <= 10000000000000) (hp : ∀ p ∈ ps, Prm8 p) (hx : All8 x.2.2) (h : Q (EI m ps x s st)) : sR m ps x s st Q := by
  refine ⟨?_⟩
  refine aAY ?_
  unfold EI at h
  refine kI (c := !vJ m ps) (fun _ P hP => aCv hl hP) (fun v e => ?_) rfl
  refine kI (c := !cP x) (fun _ P hP => kA hP) (fun v5 e5 => ?_) rfl
  rw [<- e, <- e5] at h
  cases v5 with
  | true => rw [if_pos rfl] at h ⊢; exact h
  | false =>
    rw [if_neg (by simp)] at h
    rw [if_neg (by simp)]
    have hv : v = false /\ cP x = true := by
      have := e5.symm
      simp only [Bool.or_eq_false_iff, Bool.not_eq_false'] at this
      exact this
    have hmp : vJ m ps = true := by
      have := e.symm
      rw [hv.1] at this
      simp only [Bool.or_eq_false_iff, Bool.not_eq_false'] at this
      exact this.2
    obtain ⟨q1, q2⟩ := eC hv.2
    refine kI (c := !decide (x.1.drop 1 = inL m)) (fun hb P hP => ?_) (fun v8 e8 => ?_) rfl
    · have : (x.1.length : Int) = 4 := by simpa using hb
      refine ⟨⟨(fun e0 => by rw [e0] at this; simp at this), by omega, by omega, by omega⟩, ?_⟩
      have e9 : (x.1.take ((x.1.length : Int)).toNat).drop ((1 : Int)).toNat = x.1.drop 1 := by rw [Int.toNat_natCast, List.take_length]; rfl
      rw [e9]
      exact DD (by simp; omega) hP
    · rw [<- e8] at h
      cases v8 with
      | true => rw [if_pos rfl] at h ⊢; exact h
      | false =>
        rw [if_neg (by simp)] at h
        rw [if_neg (by simp)]
        refine rY (by omega) (XC (by omega) ?_)
        obtain ⟨w1, w2⟩ := VZ hmp
        exact aDh w1 w2 hp hx h
end Go.Proofs.YtcfpfefadlnmcaaGreat

namespace Go.Proofs.YtcfpfefadlnmcaaGreat
open Go.Mach Go.RowKit
set_option maxRecDepth 100000
set_option linter.unusedVariables false
set_option linter.unusedSimpArgs false
theorem aCG {a b : List Int} {Q : List Int -> Prop} (h1 : 1 <= a.length) (h2 : a.length <= 1000000) (h3 : b.length <= 1000000) (h : Q (a ++ b)) : iX [a, b] Q := by
  have key : nX ((a.length : Int) + b.length) (fun r3 => jP [a, b] (([a, b] : List (List Int)).length : Int) (fun y4 => Q y4) (0, r3)) := by
    refine ⟨⟨by omega, by omega⟩, ⟨?_⟩⟩
    refine Loop.range (B := mK [a, b] (([a, b] : List (List Int)).length : Int) _) 2 (fun i => ((i : Int), ([a, b].take i).flatten)) (fun _ => True) trivial ?_ ?_
    · intro i hi _ X hX
      have hX := hX trivial
      match i, hi with
      | 0, _ =>
        refine ⟨by simp, by simp; omega, ?_⟩
        rw [aA _ (by simp) (by simp)]
        simpa using hX
      | 1, _ =>
        refine ⟨by simp, by simp; omega, ?_⟩
        rw [aA _ (by simp) (by simp)]
        simpa using hX
    · intro _ X
      show Q ([a, b].take 2).flatten
      simpa using h
  refine ⟨⟨?_⟩⟩
  refine Loop.range (B := mT [a, b] (([a, b] : List (List Int)).length : Int) _) 2 (fun i => ((match i with | 0 => 0 | 1 => (a.length : Int) | _ => (a.length : Int) + b.length), (i : Int))) (fun _ => True) trivial ?_ ?_
  · intro i hi _ X hX
    have hX := hX trivial
    match i, hi with
    | 0, _ =>
      refine ⟨by simp, ?_⟩
      show (if decide (IntKind.i64.wrap (0 + (a.length : Int)) < 0) = true then False else gD 0 (fun y1 => X (IntKind.i64.wrap (0 + (a.length : Int)), y1)))
      rw [Int.zero_add, aA _ (by omega) (by omega), if_neg (by simp)]
      exact ⟨hX⟩
    | 1, _ =>
      refine ⟨by simp, ?_⟩
      show (if decide (IntKind.i64.wrap ((a.length : Int) + (b.length : Int)) < 0) = true then False else gD 1 (fun y1 => X (IntKind.i64.wrap ((a.length : Int) + (b.length : Int)), y1)))
      rw [aA _ (by omega) (by omega), if_neg (by simp; omega)]
      exact ⟨hX⟩
  · intro _ X
    exact key
theorem aFR {l : List T3} {Q : Bool -> Prop} (hl : l.length <= 10000000000000) (h : Q (l.any fun t => !cP t)) : aU l Q := by
  refine ⟨⟨⟨?_⟩⟩⟩
  refine Loop.range (B := aG l (l.length : Int) _ _) l.length (fun i => (i : Int)) (fun i => ∀ j, j < i -> cP (l.getD j Z3) = true) (fun j hj => absurd hj (by omega)) ?_ ?_
  · intro i hi hI X hX
    unfold aG
    rw [if_pos (decide_eq_true (show (i : Int) < (l.length : Int) by omega))]
    refine ⟨by omega, ⟨kA ?_⟩⟩
    simp only [Int.toNat_natCast]
    cases hb : cP (l.getD i Z3) with
    | false =>
      rw [if_pos (by rfl)]
      have : (l.any fun t => !cP t) = true := by
        rw [List.any_eq_true]
        refine ⟨l[i], List.getElem_mem _, ?_⟩
        rw [List.getD_eq_getElem?_getD, List.getElem?_eq_getElem hi] at hb
        rw [show cP l[i] = false from hb]; rfl
      rw [this] at h
      rw [decide_eq_true (show (0 : Int) <= (i : Int) by omega)]
      exact h
    | true =>
      rw [if_neg (by simp), aA _ (by omega) (by omega)]
      refine hX fun j hj => ?_
      by_cases hji : j = i
      · subst hji; exact hb
      · exact hI j (by omega)
  · intro hI X
    unfold aG
    rw [if_neg (by simp)]
    have : (l.any fun t => !cP t) = false := by
      rw [List.any_eq_false]
      intro x hx
      obtain ⟨j, hj, rfl⟩ := List.mem_iff_getElem.1 hx
      have := hI j hj
      rw [List.getD_eq_getElem?_getD, List.getElem?_eq_getElem hj] at this
      rw [show cP l[j] = true from this]; simp
    rw [this] at h
    exact h
theorem aFY {l : List Lay} {Q : Bool -> Prop} (hl : l.length <= 10000000000000) (h : Q (l.any fun x => x.1 == 3)) : aX l Q := by
  refine ⟨⟨⟨?_⟩⟩⟩
  refine Loop.range (B := aJ l (l.length : Int) _ _) l.length (fun i => (i : Int)) (fun i => ∀ j, j < i -> ((l.getD j bA).1 == 3) = false) (fun j hj => absurd hj (by omega)) ?_ ?_
  · intro i hi hI X hX
    unfold aJ
    rw [if_pos (decide_eq_true (show (i : Int) < (l.length : Int) by omega))]
    refine ⟨by omega, ⟨?_⟩⟩
    simp only [Int.toNat_natCast]
    show if ((l.getD i bA).1 == 3) = true then _ else _
    cases hb : ((l.getD i bA).1 == 3) with
    | true =>
      rw [if_pos rfl]
      have : (l.any fun x => x.1 == 3) = true := by
        rw [List.any_eq_true]
        refine ⟨l[i], List.getElem_mem _, ?_⟩
        rw [List.getD_eq_getElem?_getD, List.getElem?_eq_getElem hi] at hb
        exact hb
      rw [this] at h
      rw [decide_eq_true (show (0 : Int) <= (i : Int) by omega)]
      exact h
    | false =>
      rw [if_neg (by simp), aA _ (by omega) (by omega)]
      refine hX fun j hj => ?_
      by_cases hji : j = i
      · subst hji; exact hb
      · exact hI j (by omega)
  · intro hI X
    unfold aJ
    rw [if_neg (by simp)]
    have : (l.any fun x => x.1 == 3) = false := by
      rw [List.any_eq_false]
      intro x hx
      obtain ⟨j, hj, rfl⟩ := List.mem_iff_getElem.1 hx
      have := hI j hj
      rw [List.getD_eq_getElem?_getD, List.getElem?_eq_getElem hj] at this
      simpa using this
    rw [this] at h
    exact h
def aDp (m:Mdl) (ps:List Prm) (T:List T3) (st:Int) (g:T3):Bool :=
 ((((decide (st<0)||decide (1000000<st)) || !vJ m ps)||((T.length:Int) != (m.2.length:Int)+1)) || !cP g)||T.any fun t => !cP t
def aBm (m:Mdl) (T:List T3):Bool:=(List.range (m.2.length+1)).any fun i => !decide ((T.getD i Z3).1=(T.getD 0 Z3).1.take 1++(aF m).1.getD i [])
def aEh (m:Mdl) (T:List T3) (F:List (List Int)) (g:T3):Bool :=
 (((F.length:Int) != (T.length:Int))&&((m.2.any fun x=>x.1==3)||decide (0<(F.length:Int)))) || !decide (g.1=(T.getD (T.length-1) Z3).1)
def C6 (m:Mdl) (ps:List Prm) (T:List T3) (F:List (List Int)) (st:Int) (g:T3):Int :=
 if aDp m ps T st g=true then 1 else if aBm m T=true then 2 else if aEh m T F g=true then 2 else 0
structure aG5 (m:Mdl) (ps:List Prm) (T:List T3) (g:T3) (st:Int):Prop where
 st:0<=st/\st<=1000000
 ps:vJ m ps=true
 len:T.length=m.2.length+1
 g:cP g=true
 t:∀ i,i<T.length->cP (T.getD i Z3)=true
theorem PH {m:Mdl} {ps:List Prm} {T:List T3} {st:Int} {g:T3} (h:aDp m ps T st g=false):aG5 m ps T g st:=by
 unfold aDp at h
 simp only [Bool.or_eq_false_iff,decide_eq_false_iff_not,Bool.not_eq_false',bne_eq_false_iff_eq,List.any_eq_false] at h
 obtain ⟨⟨⟨⟨⟨h1,h2⟩,h3⟩,h4⟩,h5⟩,h6⟩:=h
 refine ⟨by omega,h3,by omega,h5,fun i hi => ?_⟩
 have:=h6 _ (List.getElem_mem hi)
 rw [List.getD_eq_getElem?_getD,List.getElem?_eq_getElem hi]
 simpa using this
theorem aGH {m : Mdl} {ps : List Prm} {T : List T3} {F : List (List Int)} {st s : Int} {g : T3} {Q : Int -> Prop} (hl : m.2.length <= 1000000) (hT : T.length <= 1000000) (h : Q (C6 m ps T F st g)) :
    qL m.1.1 m.1.2.1 m.1.2.2 m.2 ps T F s st g Q := by
  refine ⟨?_⟩
  refine kI (c := decide (1000000 < st)) (fun _ P hP => hP) (fun v1 e1 => ?_) rfl
  refine kI (c := !vJ m ps) (fun _ P hP => aCv (m := m) (by omega) hP) (fun v3 e3 => ?_) rfl
  refine kI (c := (T.length : Int) != (m.2.length : Int) + 1) (fun _ P hP => by rw [aA _ (by omega) (by omega)]; exact hP) (fun v6 e6 => ?_) rfl
  refine kI (c := !cP g) (fun _ P hP => kA hP) (fun v8 e8 => ?_) rfl
  refine kI (c := T.any fun t => !cP t) (fun _ P hP => aFR (by omega) hP) (fun v11 e11 => ?_) rfl
  have e : v11 = aDp m ps T st g := by rw [e11, e8, e6, e3, e1]; rfl
  unfold C6 at h
  rw [<- e] at h
  clear e11 e8 e6 e3 e1
  cases v11 with
  | true => rw [if_pos rfl] at h ⊢; exact h
  | false =>
    rw [if_neg (by simp)] at h
    rw [if_neg (by simp)]
    have k := PH e.symm
    obtain ⟨hm, hok⟩ := q9 (m := m) (by
      have := k.ps
      unfold vJ at this
      simp only [Bool.and_eq_true, beq_iff_eq] at this
      exact this.1.1)
    have hlen := k.len
    have hsl := hok.len
    refine ⟨NU (m := m) (by omega) ⟨?_⟩⟩
    have h2 : aBm m T = true -> Q 2 := fun hb => by rw [if_pos hb] at h; exact h
    have d0 := eC (k.t 0 (by omega))
    refine Loop.range (B := iI T ((aF m).1.length : Int) (aF m).1 _ _) (m.2.length + 1) (fun i => (i : Int)) (fun i => ∀ j, j < i -> (T.getD j Z3).1 = (T.getD 0 Z3).1.take 1 ++ (aF m).1.getD j []) (fun j hj => absurd hj (by omega)) ?_ ?_
    · intro i hi hI X hX
      unfold iI
      rw [if_pos (decide_eq_true (show (i : Int) < ((aF m).1.length : Int) by omega))]
      simp only [Int.toNat_natCast]
      have hd := hok.at_ (i := i) (by omega)
      refine ⟨by omega, by omega, by omega, ⟨(fun e0 => by have := d0.2.2.1; rw [show (T.getD 0 ([], 0, [])).1 = [] from e0] at this; simp at this), by omega, by omega, by have := d0.2.2.1; show (1 : Int) <= ((T.getD 0 Z3).1.length : Int); omega⟩, ?_⟩
      show iX [(T.getD 0 Z3).1.take 1, (aF m).1.getD i []] _
      refine aCG (by rw [List.length_take]; omega) (by rw [List.length_take]; omega) (by omega) (DD (by have := (eC (k.t i (by omega))).1; show (T.getD i Z3).1.length <= _; omega) ?_)
      show if (!decide ((T.getD i Z3).1 = (T.getD 0 Z3).1.take 1 ++ (aF m).1.getD i [])) = true then _ else _
      by_cases he : (T.getD i Z3).1 = (T.getD 0 Z3).1.take 1 ++ (aF m).1.getD i []
      · rw [if_neg (by rw [decide_eq_true he]; simp), aA _ (by omega) (by omega)]
        refine hX fun j hj => ?_
        by_cases hji : j = i
        · subst hji; exact he
        · exact hI j (by omega)
      · rw [if_pos (by rw [decide_eq_false he]; rfl)]
        refine h2 ?_
        unfold aBm
        rw [List.any_eq_true]
        exact ⟨i, List.mem_range.2 hi, by rw [decide_eq_false he]; rfl⟩
    · intro hI X
      unfold iI
      rw [if_neg (by simp; omega)]
      have hb2 : aBm m T = false := by
        unfold aBm
        rw [List.any_eq_false]
        intro j hj
        rw [decide_eq_true (hI j (List.mem_range.1 hj))]
        simp
      rw [hb2, if_neg (by simp)] at h
      refine aFY (by omega) ?_
      refine tT (c := (m.2.any fun x => x.1 == 3) || decide (0 < (F.length : Int))) (fun _ P hP => kI (c := decide (0 < (F.length : Int))) (fun _ P hP => hP) (fun v ev => by rw [ev]; exact hP) rfl) (fun v17 e17 => ?_) rfl
      refine kI (c := !decide (g.1 = (T.getD (T.length - 1) Z3).1)) (fun _ P hP => ?_) (fun v21 e21 => ?_) rfl
      · rw [aA _ (by omega) (by omega)]
        have e0 : ((T.length : Int) - 1).toNat = T.length - 1 := by omega
        rw [e0]
        exact ⟨by omega, DD (by have := (eC k.g).1; omega) hP⟩
      · have e3 : v21 = aEh m T F g := by rw [e21, e17]; rfl
        rw [<- e3] at h
        clear e3 e21
        cases v21 <;> exact h
abbrev G3:=Bool×T3×T3
abbrev dV:G3:=(false,([],0,[]),([],0,[]))
noncomputable def n9 (st s:Int) (a:T3) (e i what:Int):T3×Int:=if (e != 0)=true then (Z3,e) else qE a 8 s (S6 st i what)
theorem uP {mx my mz:Int} {L:List Lay} {P:List Prm} {T:List T3} {F:List (List Int)} {back:List (List T3)} {s st:Int} {a:T3} {e i what:Int} {Q:T3×Int->Prop} (h:Q (n9 st s a e i what)):iA mx my mz L P T F back s st a e i what Q:=by
 refine ⟨?_⟩
 unfold n9 at h
 by_cases he:(e != 0)=true
 ·rw [if_pos he] at h ⊢; exact h
 ·rw [if_neg he] at h ⊢
  exact aEq (aAZ h)
noncomputable def S4 (st s:Int) (back:List (List T3)) (i:Int) (g:T3):Int×List (List T3) :=
 match back.getD i.toNat [] with
 | [t]=>if ((n9 st s (addF t g).1 (addF t g).2 i 1).2 != 0)=true then ((n9 st s (addF t g).1 (addF t g).2 i 1).2,back) else (0,back.set i.toNat [(n9 st s (addF t g).1 (addF t g).2 i 1).1])
 | _=>(0,back.set i.toNat [g])
theorem WS (st s:Int) (back:List (List T3)) (i:Int) (g:T3):(S4 st s back i g).2.length=back.length:=by
 unfold S4
 split
 ·split <;> simp
 ·simp
theorem aCY {l:List T3} {A:Prop} {B:T3->Prop} (h:match l with | [t]=>B t | _=>A):rsp l A B:=by
 refine ⟨fun hn => ?_,fun x hx => ?_⟩
 ·match l,hn,h with
  | [],_,h=>exact h
  | [x],hn,_=>exact absurd rfl (hn x)
  | _::_::_,_,h=>exact h
 ·subst hx; exact h
noncomputable def VP (st s e kd fr:Int) (g:T3) (back:List (List T3)):Int×List (List T3):=if ((e==0)&&(kd==7))=true then S4 st s back fr g else (e,back)
theorem aDz {g:T3} {e mx my mz kd fr s st:Int} {L:List Lay} {P:List Prm} {T:List T3} {F:List (List Int)} {back:List (List T3)} {K:Int×List (List T3)->Prop} (hf:kd=7->0<=fr/\fr<(back.length:Int)) (h:K (VP st s e kd fr g back)) :
  aV g e mx my mz L P T F s st kd fr back K:=by
 refine ⟨?_⟩
 unfold VP at h
 by_cases hc:((e==0)&&(kd==7))=true
 ·rw [if_pos hc] at h ⊢
  have hf:=hf (by simp only [Bool.and_eq_true,beq_iff_eq] at hc; exact hc.2)
  refine ⟨hf,aCY ?_⟩
  unfold S4 at h
  split
  ·rename_i t ht
   rw [ht] at h
   refine aCL (uP ?_)
   dsimp only at h ⊢
   by_cases he:((n9 st s (addF t g).1 (addF t g).2 fr 1).2 != 0)=true
   ·rw [if_pos he] at h ⊢; exact ⟨h⟩
   ·rw [if_neg he] at h ⊢; exact ⟨hf,⟨h⟩⟩
  ·rename_i hn
   split at h
   ·rename_i t ht; exact absurd ht (hn t)
   ·exact ⟨hf,⟨h⟩⟩
 ·rw [if_neg hc] at h ⊢; exact ⟨h⟩
noncomputable def EQ (st s n e kd fr:Int) (g nx:T3) (back:List (List T3)):Int×List (List T3) :=
 if (e==0)=true then VP st s (S4 st s back (n-1) nx).1 kd fr g (S4 st s back (n-1) nx).2 else VP st s e kd fr g back
theorem WY {n:Int} {g nx:T3} {e mx my mz kd fr s st:Int} {L:List Lay} {P:List Prm} {T:List T3} {F:List (List Int)} {back:List (List T3)} {K:Int×List (List T3)->Prop} (hn:1<=n/\n<=(back.length:Int)/\back.length<=1000000) (hf:kd=7->0<=fr/\fr<(back.length:Int)) (h:K (EQ st s n e kd fr g nx back)) :
  aH n g e mx my mz L P T F s st kd fr nx.1 nx.2.1 nx.2.2 back K:=by
 refine ⟨?_⟩
 unfold EQ at h
 rw [aA (n-1) (by omega) (by omega)]
 by_cases hc:(e==0)=true
 ·rw [if_pos hc] at h ⊢
  refine ⟨by omega,aCY ?_⟩
  unfold S4 at h
  split
  ·rename_i t ht
   rw [ht] at h
   refine aCL (uP ?_)
   dsimp only at h ⊢
   by_cases he:((n9 st s (addF t nx).1 (addF t nx).2 (n-1) 1).2 != 0)=true
   ·rw [if_pos he] at h ⊢; exact aDz hf h
   ·rw [if_neg he] at h ⊢; exact ⟨by omega,aDz (by rw [List.length_set]; exact hf) h⟩
  ·rename_i hn2
   split at h
   ·rename_i t ht; exact absurd ht (hn2 t)
   ·exact ⟨by omega,aDz (by rw [List.length_set]; exact hf) h⟩
 ·rw [if_neg hc] at h ⊢; exact aDz hf h
end Go.Proofs.YtcfpfefadlnmcaaGreat

namespace Go.Proofs.YtcfpfefadlnmcaaGreat
open Go.Mach Go.RowKit
set_option maxRecDepth 100000
set_option linter.unusedVariables false
set_option linter.unusedSimpArgs false
theorem WG {α:Type} {l m:List α} {i:Nat} {d:α} (h:i<l.length):(l++m).getD i d=l.getD i d:=by
 rw [List.getD_eq_getElem?_getD,List.getElem?_append_left h,List.getD_eq_getElem?_getD]
theorem aCj {α:Type} {l:List α} {x d:α}:(l++[x]).getD l.length d=x:=by
 rw [List.getD_eq_getElem?_getD,List.getElem?_append_right (Nat.le_refl _)]; simp
theorem EY : ∀ (r : List Lay) (i : Int) (l : List (List Int)), l ≠ [] -> (bW r i l).2.2 = 0 ->
    (∃ m, (bW r i l).1 = l ++ m) /\ (bW r i l).1.length = l.length + r.length /\ ∀ j, j < r.length -> (bW r i l).1.getD (l.length + j) [] = dL (r.getD j bA) ((bW r i l).1.take (l.length + j)) ((bW r i l).1.getD (l.length + j - 1) []) /\ (bW r i l).1.getD (l.length + j) [] ≠ []
  | [], i, l, _, _ => ⟨⟨[], by simp [bW]⟩, by simp [bW], fun j hj => absurd hj (by simp)⟩
  | x :: r, i, l, hl, h => by
    unfold bW at h ⊢
    by_cases h1 : dL x l (l.getD (l.length - 1) []) = []
    · rw [if_pos h1] at h; cases h
    rw [if_neg h1] at h ⊢
    by_cases h2 : 8192 < qA (dL x l (l.getD (l.length - 1) []))
    · rw [if_pos h2] at h; cases h
    rw [if_neg h2] at h ⊢
    have hpos := List.length_pos_iff.2 hl
    obtain ⟨⟨m, e1⟩, e2, e3⟩ := EY r (i + 1) (l ++ [dL x l (l.getD (l.length - 1) [])]) (by simp) h
    have k1 : (bW r (i + 1) (l ++ [dL x l (l.getD (l.length - 1) [])])).1.take l.length = l := by
      rw [e1, List.append_assoc, List.take_left]
    have k2 : (bW r (i + 1) (l ++ [dL x l (l.getD (l.length - 1) [])])).1.getD l.length [] = dL x l (l.getD (l.length - 1) []) := by
      rw [e1, WG (by simp), aCj]
    have k3 : (bW r (i + 1) (l ++ [dL x l (l.getD (l.length - 1) [])])).1.getD (l.length - 1) [] = l.getD (l.length - 1) [] := by
      rw [e1, List.append_assoc, WG (by omega)]
    refine ⟨⟨_ :: m, by rw [e1, List.append_assoc]; rfl⟩, by rw [e2]; simp; omega, fun j hj => ?_⟩
    cases j with
    | zero =>
      rw [Nat.add_zero, k1, k2, k3]
      exact ⟨rfl, h1⟩
    | succ j =>
      have := e3 j (by simpa using hj)
      rw [List.length_append, List.length_singleton, show l.length + 1 + j = l.length + (j + 1) by omega] at this
      exact this
theorem W4 {m:Mdl} (h:(aF m).2.2=0):(aF m).1.length=m.2.length+1/\(aF m).1.getD 0 []=inL m/\∀ i,i<m.2.length ->
  (aF m).1.getD (i+1) []=dL (m.2.getD i bA) ((aF m).1.take (i+1)) ((aF m).1.getD i [])/\(aF m).1.getD (i+1) []≠[]:=by
 obtain ⟨hm,_⟩:=q9 h
 unfold aF at h ⊢
 rw [if_pos hm] at h ⊢
 by_cases h8:8192<qA (inL m)
 ·rw [if_pos h8] at h; cases h
 rw [if_neg h8] at h ⊢
 obtain ⟨⟨k,e1⟩,e2,e3⟩:=EY m.2 0 [inL m] (by simp) h
 refine ⟨by rw [e2]; simp; omega,by rw [e1]; rfl,fun i hi => ?_⟩
 have:=e3 i hi
 rw [List.length_singleton,Nat.add_comm 1 i,show i+1-1=i by omega] at this
 exact this
theorem OG {d:List Int} {c:Int} {x:Lay} (h:i9 d c x≠[]):d.length=3:=by
 unfold i9 at h
 split at h
 ·assumption
 ·exact absurd rfl h
theorem aBP {x:Lay} {l:List (List Int)} {d:List Int} (hx:x.1=2\/x.1=3\/x.1=4) (h:dL x l d≠[]):d.length=3:=by
 unfold dL at h
 rw [if_neg (by omega)] at h
 split at h
 ·exact OG h
 ·rw [if_pos (by omega)] at h
  exact OG h
noncomputable def onV (x:Lay) (p:Prm) (g t:T3) (fr:List Int) (st s n:Int):T3×Int :=
 if x.1=5 then rbF g t
 else if x.1=6 then GB g t.1
 else if x.1=7 then (g,0)
 else if x.1=1 then n9 st s (Z0 g p.1).1 (Z0 g p.1).2 n 2
 else if x.1=2 then n9 st s (U5 g p.1 (t.1.getD 2 0) (t.1.getD 3 0) x.2.2.2.1 x.2.2.2.2.1).1 (U5 g p.1 (t.1.getD 2 0) (t.1.getD 3 0) x.2.2.2.1 x.2.2.2.2.1).2 n 2
 else if x.1=3 then n9 st s (GZ g fr t.1).1 (GZ g fr t.1).2 n 2
 else if x.1=4 then n9 st s (HB g t.1 x.2.2.1 x.2.2.2.1).1 (HB g t.1 x.2.2.1 x.2.2.2.1).2 n 2
 else n9 st s Z3 0 n 2
theorem aGv {n:Nat} {g t:T3} {mx my mz s st:Int} {L:List Lay} {P:List Prm} {T:List T3} {F:List (List Int)} {back:List (List T3)} {K:Int×List (List T3)->Prop} (hn:1<=n/\n<=L.length/\L.length<=100000) (hP:P.length=L.length) (hb:back.length=L.length+1)
  (ag:All8 g.2.2) (ap:Prm8 (P.getD (n-1) fP)) (ht:t.1.length<=1000000) (hconv:(L.getD (n-1) bA).1=2->4<=t.1.length) (hmax:(L.getD (n-1) bA).1=3->n<F.length) (hadd:(L.getD (n-1) bA).1=7->0<=(L.getD (n-1) bA).2.2.2.2.2.1/\(L.getD (n-1) bA).2.2.2.2.2.1<(back.length:Int))
  (h:K (EQ st s n (onV (L.getD (n-1) bA) (P.getD (n-1) fP) g t (F.getD n []) st s n).2 (L.getD (n-1) bA).1 (L.getD (n-1) bA).2.2.2.2.2.1 g (onV (L.getD (n-1) bA) (P.getD (n-1) fP) g t (F.getD n []) st s n).1 back)) :
  cH (n:Int) g mx my mz L P T F s st (L.getD (n-1) bA).1 (L.getD (n-1) bA).2.2.2.2.2.1 t.1 t.2.1 t.2.2 back K:=by
 refine ⟨?_⟩
 have ew:IntKind.i64.wrap ((n:Int)-1)=((n-1:Nat):Int):=by rw [aA _ (by omega) (by omega)]; omega
 rw [ew]
 simp only [Int.toNat_natCast]
 show ck ((0:Int)<=((n-1:Nat):Int)/\((n-1:Nat):Int)<(L.length:Int)) _
 refine ⟨by omega,by omega,?_⟩
 revert hconv hmax hadd h ap
 generalize hx:L.getD (n-1) (0,0,0,0,0,0,false)=x
 generalize hp:P.getD (n-1) (([],0,[]),[],[],0,[])=p
 intro ap hconv hmax hadd h
 have hnb:1<=(n:Int)/\(n:Int)<=(back.length:Int)/\back.length<=1000000:=by omega
 unfold onV at h
 by_cases h5:x.1=5
 ·simp only [if_pos h5] at h
  rw [if_pos (by simpa using h5)]
  exact Y9 (WY hnb hadd h)
 simp only [if_neg h5] at h
 rw [if_neg (by simpa using h5)]
 by_cases h6:x.1=6
 ·simp only [if_pos h6] at h
  rw [if_pos (by simpa using h6)]
  exact aAx (by omega) (WY hnb hadd h)
 simp only [if_neg h6] at h
 rw [if_neg (by simpa using h6)]
 by_cases h7:x.1=7
 ·simp only [if_pos h7] at h
  rw [if_pos (by simpa using h7)]
  exact WY hnb hadd h
 simp only [if_neg h7] at h
 rw [if_neg (by simpa using h7)]
 by_cases h1:x.1=1
 ·simp only [if_pos h1] at h
  rw [if_pos (by simpa using h1)]
  exact aGy ag ap.1 ⟨uP (WY hnb hadd h)⟩
 simp only [if_neg h1] at h
 rw [if_neg (by simpa using h1)]
 by_cases h2:x.1=2
 ·simp only [if_pos h2] at h
  rw [if_pos (by simpa using h2)]
  have:=hconv h2
  exact ⟨by omega,by omega,aE5 ag ap.1 ⟨uP (WY hnb hadd h)⟩⟩
 simp only [if_neg h2] at h
 rw [if_neg (by simpa using h2)]
 refine ⟨?_⟩
 by_cases h3:x.1=3
 ·simp only [if_pos h3] at h
  rw [if_pos (by simpa using h3)]
  have:=hmax h3
  exact ⟨by omega,aBh ⟨uP (WY hnb hadd h)⟩⟩
 simp only [if_neg h3] at h
 rw [if_neg (by simpa using h3)]
 by_cases h4:x.1=4
 ·simp only [if_pos h4] at h
  rw [if_pos (by simpa using h4)]
  exact aBM ⟨uP (WY hnb hadd h)⟩
 simp only [if_neg h4] at h
 rw [if_neg (by simpa using h4)]
 exact ⟨uP (WY hnb hadd h)⟩
def yT (x:Lay) (g t:T3):G3×Int :=
 if x.1=1 then (if (YP g t).2=0 then (if (ZC g).2=0 then ((true,(YP g t).1,(ZC g).1),0) else (dV,(ZC g).2)) else (dV,(YP g t).2))
 else (if (zT g t x.2.2.1 x.2.2.2.1 x.2.2.2.2.1).2=0 then (if (NA g).2=0 then ((true,(zT g t x.2.2.1 x.2.2.2.1 x.2.2.2.2.1).1,(NA g).1),0) else (dV,(NA g).2)) else (dV,(zT g t x.2.2.1 x.2.2.2.1 x.2.2.2.2.1).2))
theorem aGz {a b:Int} {W B:T3} {K0:Bool×List Int×Int×List Int×List Int×Int×List Int->Prop} {K1:Int->Prop} (h:a=0->b=0->K0 (true,W.1,W.2.1,W.2.2,B.1,B.2.1,B.2.2)) (h1:a=0->b≠0->K1 b) (h2:a≠0->K1 a) :
  aK a b true W.1 W.2.1 B.1 B.2.1 W.2.2 B.2.2 (fun y=>cJ y.1 (fun _=>K0 (y.2.1,y.2.2.1,y.2.2.2.1,y.2.2.2.2.1,y.2.2.2.2.2.1,y.2.2.2.2.2.2.1,y.2.2.2.2.2.2.2)) (fun _=>K1 y.1)):=by
 refine ⟨?_⟩
 by_cases ha:a=0
 ·rw [if_pos (by simpa using ha)]
  refine ⟨?_⟩
  by_cases hb:b=0
  ·rw [if_neg (by simpa using hb)]
   refine ⟨?_⟩
   dsimp only
   rw [if_neg (by simp)]
   exact h ha hb
  ·rw [if_pos (by simpa using hb)]
   refine ⟨?_⟩
   dsimp only
   rw [if_pos (by simpa using hb)]
   exact h1 ha hb
 ·rw [if_neg (by simpa using ha)]
  refine ⟨?_⟩
  rw [if_pos (by simpa using ha)]
  refine ⟨?_⟩
  dsimp only
  rw [if_pos (by simpa using ha)]
  exact h2 ha
def aGm (G:G3):Bool×List Int×Int×List Int×List Int×Int×List Int:=(G.1,G.2.1.1,G.2.1.2.1,G.2.1.2.2,G.2.2.1,G.2.2.2.1,G.2.2.2.2)
theorem aGd {g t : T3} {x : Lay} {w : Bool} {K0 : Bool × List Int × Int × List Int × List Int × Int × List Int -> Prop} {K1 : Int -> Prop} (ag : All8 g.2.2) (at8 : All8 t.2.2) (h0 : w = true -> (yT x g t).2 = 0 -> K0 (aGm (yT x g t).1)) (h1 : w = true -> (yT x g t).2 ≠ 0 -> K1 (yT x g t).2) (h2 : w = false -> K0 (aGm dV)) :
    dP g w x.1 x.2.2.1 x.2.2.2.1 x.2.2.2.2.1 t.1 t.2.1 t.2.2 false 0 0 K0 K1 := by
  refine ⟨?_⟩
  cases w with
  | false => rw [if_neg (by simp)]; exact h2 rfl
  | true =>
    have h0 := h0 rfl
    have h1 := h1 rfl
    rw [if_pos rfl]
    unfold yT at h0 h1
    by_cases hk : x.1 = 1
    · simp only [if_pos hk] at h0 h1
      rw [if_pos (by simpa using hk)]
      refine aG1 ag at8 (aGx ag (aGz (fun ha hb => ?_) (fun ha hb => ?_) (fun ha => ?_)))
      · simp only [if_pos ha, if_pos hb] at h0
        exact h0 trivial
      · simp only [if_pos ha, if_neg hb] at h1
        exact h1 hb
      · simp only [if_neg ha] at h1
        exact h1 ha
    · simp only [if_neg hk] at h0 h1
      rw [if_neg (by simpa using hk)]
      refine aCP ag at8 (aFW ag (aGz (fun ha hb => ?_) (fun ha hb => ?_) (fun ha => ?_)))
      · simp only [if_pos ha, if_pos hb] at h0
        exact h0 trivial
      · simp only [if_pos ha, if_neg hb] at h1
        exact h1 hb
      · simp only [if_neg ha] at h1
        exact h1 ha
end Go.Proofs.YtcfpfefadlnmcaaGreat

namespace Go.Proofs.YtcfpfefadlnmcaaGreat
open Go.Mach Go.RowKit
set_option maxRecDepth 100000
set_option linter.unusedVariables false
set_option linter.unusedSimpArgs false
def KX (x:Lay):Bool:=((x.1==1)||(x.1==2)) && !x.2.2.2.2.2.2
def grV (x:Lay) (g t:T3):G3×Int:=if KX x=true then yT x g t else (dV,0)
noncomputable def KA (m : Mdl) (ps : List Prm) (T : List T3) (F : List (List Int)) (st s : Int) (n : Nat) (back : List (List T3)) (g : T3) : (G3 × Int) × List (List T3) :=
  if (grV (m.2.getD (n - 1) bA) g (T.getD (n - 1) Z3)).2 = 0 then
    (((grV (m.2.getD (n - 1) bA) g (T.getD (n - 1) Z3)).1, (EQ st s n (onV (m.2.getD (n - 1) bA) (ps.getD (n - 1) fP) g (T.getD (n - 1) Z3) (F.getD n []) st s n).2 (m.2.getD (n - 1) bA).1 (m.2.getD (n - 1) bA).2.2.2.2.2.1 g (onV (m.2.getD (n - 1) bA) (ps.getD (n - 1) fP) g (T.getD (n - 1) Z3) (F.getD n []) st s n).1 back).1),
      (EQ st s n (onV (m.2.getD (n - 1) bA) (ps.getD (n - 1) fP) g (T.getD (n - 1) Z3) (F.getD n []) st s n).2 (m.2.getD (n - 1) bA).1 (m.2.getD (n - 1) bA).2.2.2.2.2.1 g (onV (m.2.getD (n - 1) bA) (ps.getD (n - 1) fP) g (T.getD (n - 1) Z3) (F.getD n []) st s n).1 back).2)
  else ((dV, (grV (m.2.getD (n - 1) bA) g (T.getD (n - 1) Z3)).2), back)
noncomputable def iC (m:Mdl) (ps:List Prm) (T:List T3) (F:List (List Int)) (st s:Int) (n:Nat) (back:List (List T3)):(G3×Int)×List (List T3) :=
 match back.getD n [] with
 | [g]=>KA m ps T F st s n back g
 | _=>((dV,0),back)
noncomputable def oH (m:Mdl) (ps:List Prm) (T:List T3) (F:List (List Int)) (st s:Int):Nat->List G3->List (List T3)->List G3×Int×Int
 | 0,out,_=>(out,0,0)
 | n+1,out,back=>if (iC m ps T F st s (n+1) back).1.2=0 then oH m ps T F st s n (out.set n (iC m ps T F st s (n+1) back).1.1) (iC m ps T F st s (n+1) back).2 else ([],((n+1:Nat):Int),(iC m ps T F st s (n+1) back).1.2)
noncomputable def pV (m:Mdl) (ps:List Prm) (T:List T3) (F:List (List Int)) (g:T3) (s st:Int):List G3×Int×Int :=
 if C6 m ps T F st g=0 then oH m ps T F st s m.2.length (List.replicate m.2.length dV) ((List.replicate T.length []).set m.2.length [g]) else ([],0,C6 m ps T F st g)
def Bk8 (back:List (List T3)):Prop:=∀ l∈back,∀ t∈l,All8 t.2.2
theorem EC {st s:Int} {a:T3} {e i w:Int}:All8 (n9 st s a e i w).1.2.2:=by
 unfold n9
 split
 ·intro y hy; cases hy
 ·exact aCc
theorem Bk8.set {back:List (List T3)} (h:Bk8 back) {i:Nat} {t:T3} (ht:All8 t.2.2):Bk8 (back.set i [t]):=by
 intro l hl t' ht'
 rcases List.mem_or_eq_of_mem_set hl with h1 | h1
 ·exact h l h1 t' ht'
 ·subst h1
  rw [List.mem_singleton] at ht'
  subst ht'; exact ht
theorem Bk8.at_ {back : List (List T3)} (h : Bk8 back) {i : Nat} {t : T3} (ht : back.getD i [] = [t]) : All8 t.2.2 := by
  rw [List.getD_eq_getElem?_getD] at ht
  cases hi : back[i]? with
  | none => rw [hi] at ht; cases ht
  | some l =>
    rw [hi] at ht
    have ht : l = [t] := ht
    exact h l (List.mem_of_getElem? hi) t (by rw [ht]; exact List.mem_singleton.2 rfl)
theorem aGZ {st s:Int} {back:List (List T3)} {i:Int} {g:T3} (h:Bk8 back) (hg:All8 g.2.2):Bk8 (S4 st s back i g).2:=by
 unfold S4
 split
 ·split
  ·exact h
  ·exact h.set EC
 ·exact h.set hg
theorem aEw {st s e kd fr:Int} {g:T3} {back:List (List T3)} (h:Bk8 back) (hg:All8 g.2.2):Bk8 (VP st s e kd fr g back).2:=by
 unfold VP
 split
 ·exact aGZ h hg
 ·exact h
theorem aAj {st s e kd fr:Int} {g:T3} {back:List (List T3)}:(VP st s e kd fr g back).2.length=back.length:=by
 unfold VP
 split
 ·exact WS _ _ _ _ _
 ·rfl
theorem aGY {st s n e kd fr:Int} {g nx:T3} {back:List (List T3)} (h:Bk8 back) (hg:All8 g.2.2) (hx:All8 nx.2.2):Bk8 (EQ st s n e kd fr g nx back).2:=by
 unfold EQ
 split
 ·exact aEw (aGZ h hx) hg
 ·exact aEw h hg
theorem aCy {st s n e kd fr:Int} {g nx:T3} {back:List (List T3)}:(EQ st s n e kd fr g nx back).2.length=back.length:=by
 unfold EQ
 split
 ·rw [aAj,WS]
 ·exact aAj
theorem on8 {x : Lay} {p : Prm} {g t : T3} {fr : List Int} {st s n : Int} (hg : All8 g.2.2) : All8 (onV x p g t fr st s n).1.2.2 := by
  unfold onV
  split
  · unfold rbF
    split
    · split
      · intro y hy
        unfold tab at hy
        obtain ⟨i, _, rfl⟩ := List.mem_map.1 hy
        split
        · exact hg.at_ i
        · omega
      · intro y hy; cases hy
    · intro y hy; cases hy
  split
  · unfold GB
    split
    · split
      · exact hg
      · intro y hy; cases hy
    · intro y hy; cases hy
  split
  · exact hg
  split
  · exact EC
  split
  · exact EC
  split
  · exact EC
  split
  · exact EC
  · exact EC
theorem aFG {m:Mdl} {ps:List Prm} {T:List T3} {F:List (List Int)} {st s:Int} {n:Nat} {back:List (List T3)} (h:Bk8 back):Bk8 (iC m ps T F st s n back).2/\(iC m ps T F st s n back).2.length=back.length:=by
 unfold iC
 split
 ·rename_i g hg
  have g8:=h.at_ hg
  unfold KA
  split
  ·exact ⟨aGY h g8 (on8 g8),aCy⟩
  ·exact ⟨h,rfl⟩
 ·exact ⟨h,rfl⟩
theorem aGO {n:Nat} {e:Int} {out:List G3} {G:G3} {K0 K1:List G3->Prop} (hn:1<=n/\n<=out.length/\n<=1000000) (h0:e=0->K0 (out.set (n-1) G)) (h1:e≠0->K1 []) :
  fH (n:Int) e out G.1 G.2.1.1 G.2.1.2.1 G.2.1.2.2 G.2.2.1 G.2.2.2.1 G.2.2.2.2 K0 K1:=by
 refine ⟨?_⟩
 by_cases he:e=0
 ·rw [if_neg (by simpa using he)]
  have ew:IntKind.i64.wrap ((n:Int)-1)=((n-1:Nat):Int):=by rw [aA _ (by omega) (by omega)]; omega
  rw [ew]
  simp only [Int.toNat_natCast]
  exact ⟨by omega,h0 he⟩
 ·rw [if_pos (by simpa using he)]
  exact h1 he
structure aFE (m:Mdl) (ps:List Prm) (T:List T3) (F:List (List Int)):Prop where
 len:m.2.length<=12
 pl:ps.length=m.2.length
 t:T.length=m.2.length+1
 p8:∀ p∈ps,Prm8 p
 t8:Ten8 T
 dims:∀ i,i<T.length->(T.getD i Z3).1.length<=4
 conv:∀ i,i<m.2.length->(m.2.getD i bA).1=2->4<=(T.getD i Z3).1.length
 max:∀ i,i<m.2.length->(m.2.getD i bA).1=3->i+1<F.length
 add:∀ i,i<m.2.length->(m.2.getD i bA).1=7->0<=(m.2.getD i bA).2.2.2.2.2.1/\(m.2.getD i bA).2.2.2.2.2.1<(m.2.length:Int)
theorem aF4 {m : Mdl} {ps : List Prm} {T : List T3} {F : List (List Int)} {s st mx my mz : Int} (r : aFE m ps T F) {K0 : List G3 -> Prop} {K1 : List G3 × Int × Int -> Prop} {out : List G3} {back : List (List T3)}
    (ho : out.length = m.2.length) (hb : back.length = m.2.length + 1) (h8 : Bk8 back) (h0 : (oH m ps T F st s m.2.length out back).2.2 = 0 -> K0 (oH m ps T F st s m.2.length out back).1) (h1 : (oH m ps T F st s m.2.length out back).2.2 ≠ 0 -> K1 (oH m ps T F st s m.2.length out back)) :
    tH mx my mz m.2 ps T F s st K0 K1 ((m.2.length : Int), out, back) := by
  refine ⟨?_⟩
  have hl := r.len
  obtain ⟨z, hz⟩ : ∃ z, oH m ps T F st s m.2.length out back = z := ⟨_, rfl⟩
  rw [hz] at h0 h1
  refine Loop.rangeI (B := l4 mx my mz m.2 ps T F s st K0 K1) m.2.length
    (fun i z' => z'.1 = ((m.2.length - i : Nat) : Int) /\ z'.2.1.length = m.2.length /\ z'.2.2.length = m.2.length + 1 /\ Bk8 z'.2.2 /\ oH m ps T F st s (m.2.length - i) z'.2.1 z'.2.2 = z) ⟨rfl, ho, hb, h8, hz⟩ ?_ ?_
  · rintro i hi ⟨z1, out, back⟩ ⟨rfl, e1, e2, h8, hq⟩ X hX
    unfold l4
    dsimp only at e1 e2 h8 hq ⊢
    obtain ⟨n, hn⟩ : ∃ n, m.2.length - i = n + 1 := ⟨m.2.length - i - 1, by omega⟩
    rw [hn] at hq ⊢
    rw [if_pos (decide_eq_true (show (0 : Int) < ((n + 1 : Nat) : Int) by omega))]
    have ew : IntKind.i64.wrap (((n + 1 : Nat) : Int) - 1) = (n : Int) := by rw [aA _ (by omega) (by omega)]; omega
    rw [ew]
    simp only [Int.toNat_natCast]
    refine ⟨by omega, by rw [r.t]; omega, by omega, ?_⟩
    have hX' : ∀ (o : List G3) (b : List (List T3)), o.length = m.2.length -> b.length = m.2.length + 1 -> Bk8 b -> oH m ps T F st s n o b = z -> X ((n : Int), o, b) := fun o b k1 k2 k3 k4 =>
      hX _ ⟨by show (n : Int) = _; omega, k1, k2, k3, by rw [show m.2.length - (i + 1) = n by omega]; exact k4⟩
    unfold oH at hq
    have fin : ∀ (G : G3) (e : Int) (b : List (List T3)), iC m ps T F st s (n + 1) back = ((G, e), b) -> b.length = m.2.length + 1 -> Bk8 b ->
        fH ((n + 1 : Nat) : Int) e out G.1 G.2.1.1 G.2.1.2.1 G.2.1.2.2 G.2.2.1 G.2.2.2.1 G.2.2.2.2 (fun y => X ((n : Int), y, b)) (fun y => K1 (y, ((n + 1 : Nat) : Int), e)) := by
      intro G e b he hb hb8
      rw [he] at hq
      refine aGO (by omega) (fun h => ?_) (fun h => ?_)
      · simp only [if_pos h] at hq
        rw [Nat.add_sub_cancel]
        exact hX' _ _ (by rw [List.length_set]; exact e1) hb hb8 hq
      · simp only [if_neg h] at hq
        subst hq
        exact h1 h
    refine aCY ?_
    obtain ⟨l8, ll⟩ := aFG (m := m) (ps := ps) (T := T) (F := F) (st := st) (s := s) (n := n + 1) h8
    split
    · rename_i g hg
      have g8 := h8.at_ hg
      have hL : iC m ps T F st s (n + 1) back = KA m ps T F st s (n + 1) back g := by unfold iC; rw [hg]
      rw [hL] at fin l8 ll
      unfold KA at fin l8 ll
      rw [Nat.add_sub_cancel] at fin l8 ll
      have hni : n < m.2.length := by omega
      have wt : KX (m.2.getD n bA) = true -> grV (m.2.getD n bA) g (T.getD n Z3) = yT (m.2.getD n bA) g (T.getD n Z3) := fun h => by unfold grV; rw [if_pos h]
      have wf : KX (m.2.getD n bA) = false -> grV (m.2.getD n bA) g (T.getD n Z3) = (dV, 0) := fun h => by unfold grV; rw [if_neg (by rw [h]; simp)]
      have cont : ∀ G : G3, (grV (m.2.getD n bA) g (T.getD n Z3)).1 = G -> (grV (m.2.getD n bA) g (T.getD n Z3)).2 = 0 ->
          cH ((n + 1 : Nat) : Int) g mx my mz m.2 ps T F s st (m.2.getD n bA).1 (m.2.getD n bA).2.2.2.2.2.1 (T.getD n Z3).1 (T.getD n Z3).2.1 (T.getD n Z3).2.2 back (fun y => fH ((n + 1 : Nat) : Int) y.1 out G.1 G.2.1.1 G.2.1.2.1 G.2.1.2.2 G.2.2.1 G.2.2.2.1 G.2.2.2.2 (fun y4 => X ((n : Int), y4, y.2)) (fun y5 => K1 (y5, ((n + 1 : Nat) : Int), y.1))) := by
        intro G hG h0
        have k := aGv (n := n + 1) (g := g) (t := T.getD n Z3) (mx := mx) (my := my) (mz := mz) (s := s) (st := st) (L := m.2) (P := ps) (T := T) (F := F) (back := back)
          (K := fun y => fH ((n + 1 : Nat) : Int) y.1 out G.1 G.2.1.1 G.2.1.2.1 G.2.1.2.2 G.2.2.1 G.2.2.2.1 G.2.2.2.2 (fun y4 => X ((n : Int), y4, y.2)) (fun y5 => K1 (y5, ((n + 1 : Nat) : Int), y.1)))
          (by omega) r.pl e2 g8 (Prm8.at_ r.p8 _) (by have := r.dims n (by rw [r.t]; omega); omega) (by rw [Nat.add_sub_cancel]; exact r.conv n hni) (by rw [Nat.add_sub_cancel]; exact r.max n hni) (by rw [Nat.add_sub_cancel, e2]; intro h7; have := r.add n hni h7; omega)
        rw [Nat.add_sub_cancel] at k
        refine k ?_
        rw [if_pos h0, hG] at fin
        rw [if_pos h0] at l8 ll
        exact fin _ _ _ rfl (ll.trans e2) l8
      refine aGd g8 (r.t8.at_ n) (fun hw he => ?_) (fun hw he => ?_) (fun hw => ?_)
      · rw [wt hw] at cont
        exact cont _ rfl he
      · have := fin dV (yT (m.2.getD n bA) g (T.getD n Z3)).2 back (by rw [wt hw, if_neg he]) e2 h8
        exact this
      · rw [wf hw] at cont
        exact cont dV rfl rfl
    · rename_i hn2
      have hL : iC m ps T F st s (n + 1) back = ((dV, 0), back) := by
        unfold iC
        split
        · rename_i g hg; exact absurd hg (hn2 g)
        · rfl
      exact fin dV 0 back hL e2 h8
  · rintro ⟨z1, out, back⟩ ⟨rfl, e1, e2, h8, hq⟩ X
    unfold l4
    dsimp only at hq ⊢
    rw [Nat.sub_self] at hq ⊢
    rw [if_neg (by simp)]
    unfold oH at hq
    subst hq
    exact h0 rfl
theorem aBn {m:Mdl} {ps:List Prm} {T:List T3} {F:List (List Int)} {st:Int} {g:T3} (h:C6 m ps T F st g=0):aG5 m ps T g st/\(∀ i,i<m.2.length+1->(T.getD i Z3).1=(T.getD 0 Z3).1.take 1++(aF m).1.getD i [])/\aEh m T F g=false:=by
 unfold C6 at h
 split at h
 ·cases h
 rename_i h1
 split at h
 ·cases h
 rename_i h2
 split at h
 ·cases h
 rename_i h3
 refine ⟨PH (by simpa using h1),fun i hi => ?_,by simpa using h3⟩
 unfold aBm at h2
 simp only [List.any_eq_true,not_exists,not_and] at h2
 have:=h2 i (List.mem_range.2 hi)
 simpa using this
theorem X5 {m:Mdl} {ps:List Prm} (h:vJ m ps=true):(aF m).2.2=0:=by
 unfold vJ at h
 simp only [Bool.and_eq_true,beq_iff_eq] at h
 exact h.1.1
theorem aCW {m:Mdl} {ps:List Prm} {T:List T3} {F:List (List Int)} {st:Int} {g:T3} (hp:∀ p∈ps,Prm8 p) (h8:Ten8 T) (h:C6 m ps T F st g=0):aFE m ps T F:=by
 obtain ⟨k,hd,h3⟩:=aBn h
 obtain ⟨w1,w2⟩:=VZ k.ps
 obtain ⟨_,⟨k1,k2⟩,k3⟩:=jX w1
 obtain ⟨s1,s2,s3⟩:=W4 (X5 k.ps)
 have d0:=eC (k.t 0 (by have:=k.len; omega))
 refine ⟨k2,w2,k.len,hp,h8,fun i hi=>(eC (k.t i hi)).1,fun i hi hx => ?_,fun i hi hx => ?_,fun i hi hx => ?_⟩
 ·have:=aBP (.inl hx) (by rw [<- (s3 i hi).1]; exact (s3 i hi).2)
  rw [hd i (by omega),List.length_append,List.length_take,this]
  omega
 ·unfold aEh at h3
  have ha:(m.2.any fun x=>x.1==3)=true:=by
   rw [List.any_eq_true]
   refine ⟨m.2[i],List.getElem_mem _,?_⟩
   rw [List.getD_eq_getElem?_getD,List.getElem?_eq_getElem hi] at hx
   simpa using hx
  simp only [ha,Bool.true_or,Bool.and_true,Bool.or_eq_false_iff,bne_eq_false_iff_eq] at h3
  have:=k.len
  omega
 ·have:=zU (k3 i hi) hx
  rw [aA ((i:Int)-1) (by omega) (by omega)] at this
  omega
theorem ZI {m : Mdl} {ps : List Prm} {T : List T3} {F : List (List Int)} {g : T3} {s st : Int} {Q : List G3 × Int × Int -> Prop} (hl : m.2.length <= 1000000) (hT : T.length <= 1000000) (hp : ∀ p ∈ ps, Prm8 p) (h8 : Ten8 T) (hg : All8 g.2.2) (h : Q (pV m ps T F g s st)) : qH m ps (T, F) g s st Q := by
  refine ⟨aGH hl hT ?_⟩
  unfold pV at h
  by_cases he : C6 m ps T F st g = 0
  rotate_left
  · rw [if_neg he] at h
    rw [if_pos (by simpa using he)]
    exact h
  rw [if_pos he] at h
  rw [if_neg (by simpa using he)]
  have r := aCW hp h8 he
  have hl2 := r.len
  have ht := r.t
  refine ⟨by show (0 : Int) <= (T.length : Int) /\ ((8 : Nat) : Int) * (T.length : Int) <= _; omega, ⟨by omega, by rw [List.length_replicate]; simp only [Int.toNat_natCast]; omega⟩, ⟨by omega, by omega⟩, ?_⟩
  simp only [Int.toNat_natCast]
  refine aF4 r (by rw [List.length_replicate]) (by rw [List.length_set, List.length_replicate]; exact ht) ?_ (fun h0 => ?_) (fun h1 => h)
  · refine Bk8.set (fun l hl t ht => ?_) hg
    have := List.eq_of_mem_replicate hl
    subst this; cases ht
  · have key : ∀ (n : Nat) (o : List G3) (b : List (List T3)), (oH m ps T F st s n o b).2.2 = 0 -> (oH m ps T F st s n o b).2.1 = 0 := by
      intro n
      induction n with
      | zero => intro o b _; rfl
      | succ n ih =>
        intro o b hz
        unfold oH at hz ⊢
        split
        · rename_i h2; rw [if_pos h2] at hz; exact ih _ _ hz
        · rename_i h2; rw [if_neg h2] at hz; exact absurd hz h2
    have k2 := key _ _ _ h0
    generalize oH m ps T F st s m.2.length (List.replicate m.2.length dV) ((List.replicate T.length []).set m.2.length [g]) = z at h h0 k2 ⊢
    obtain ⟨a, b, c⟩ := z
    dsimp only at h0 k2 ⊢
    subst h0 k2
    exact h
end Go.Proofs.YtcfpfefadlnmcaaGreat

namespace Go.Proofs.YtcfpfefadlnmcaaGreat
open Go.Mach Go.RowKit
set_option maxRecDepth 100000
set_option linter.unusedVariables false
set_option linter.unusedSimpArgs false
theorem aFu {x:Int} (h:(Lit.int IntKind.i8 x).wf=true) : -128<=x/\x<=127:=by
 have:=aGF h
 have e1:IntKind.i8.min = -128:=by decide
 have e2:IntKind.i8.max=127:=by decide
 rw [e1,e2] at this
 exact this
theorem aEU {x n:Int} (h1:1<=x) (h2:x<=4096) (h3:1<=n) (h4:n<=8192):(IntKind.i64.wrap ((8192:Int).tdiv x)<n) ↔ 8192<n*x:=by
 have e:(8192:Int).tdiv x=8192 / x:=Int.tdiv_eq_ediv_of_nonneg (by omega)
 have h5:0<=(8192:Int) / x:=Int.ediv_nonneg (by omega) (by omega)
 have h6:(8192:Int) / x<=8192:=Int.ediv_le_self _ (by omega)
 rw [e,aA _ (by omega) (by omega),Int.ediv_lt_iff_lt_mul (by omega)]
theorem RU {acc d:Int} {r:List Int} (h1:1<=acc) (h2:acc<=8192):pW acc (d::r)=if (decide (d<1)||decide (4096<d))=true then 0 else if 8192<acc*d then 0 else pW (acc*d) r:=by
 by_cases hd:(decide (d<1)||decide (4096<d))=true
 ·rw [if_pos hd]
  unfold pW
  rw [if_pos (by rw [hd]; rfl)]
 ·rw [if_neg hd]
  simp only [Bool.or_eq_true,decide_eq_true_eq,not_or] at hd
  have hb:=AU acc d 8192 4096 (by omega) (by omega) (by omega) (by omega) (by omega)
  have hw:IntKind.i64.wrap (acc*d)=acc*d:=aA _ (by omega) (by omega)
  have e1:decide (d<1)=false:=by simp; omega
  have e2:decide (4096<d)=false:=by simp; omega
  by_cases h3:8192<acc*d
  ·rw [if_pos h3]
   unfold pW
   rw [hw,if_pos (by simp [h3])]
  ·rw [if_neg h3]
   show (if ((decide (d<1)||decide (4096<d))||decide (8192<IntKind.i64.wrap (acc*d)))=true then 0 else pW (IntKind.i64.wrap (acc*d)) r)=_
   rw [hw,if_neg (by rw [e1,e2]; simp; omega)]
theorem SL {l:List Int} {i:Nat} (h:i<l.length):l.drop i=l.getD i 0::l.drop (i+1):=by
 rw [List.drop_eq_getElem_cons h,List.getD_eq_getElem?_getD,List.getElem?_eq_getElem h]; rfl
theorem VW {a d:Int} (h1:1<=a) (h2:1<=d):1<=a*d:=by
 have:=Int.mul_pos (show 0<a by omega) (show 0<d by omega)
 omega
theorem D7 {l : List Int} {Q : Bool -> Prop} (h : Q (decide (0 < szF l))) : dT l Q := by
  refine ⟨?_⟩
  unfold szF at h
  by_cases e : (decide ((l.length : Int) < 1) || decide (4 < (l.length : Int))) = true
  · rw [if_pos e] at h ⊢; exact h
  · rw [if_neg e] at h ⊢
    have hl : l.length <= 4 := by simp only [Bool.or_eq_true, decide_eq_true_eq, not_or] at e; omega
    obtain ⟨z, hz⟩ : ∃ z, pW 1 l = z := ⟨_, rfl⟩
    rw [hz] at h
    refine ⟨?_⟩
    refine Loop.inv (n := l.length) (fun m s => ∃ i : Nat, i + m = l.length /\ s.2 = (i : Int) /\ 1 <= s.1 /\ s.1 <= 8192 /\ pW s.1 (l.drop i) = z) ⟨0, by omega, rfl, by show 1 <= (1 : Int); omega, by show (1 : Int) <= 8192; omega, hz⟩ ?_
    rintro m ⟨acc, i'⟩ X ⟨i, hi, he, ha, hb, hzz⟩ hX
    simp only at he ha hb hzz
    subst he
    unfold mN
    by_cases hlt : i < l.length
    · rw [SL hlt, RU ha hb] at hzz
      rw [if_pos (decide_eq_true (show (i : Int) < (l.length : Int) by omega))]
      dsimp only
      refine ⟨by omega, ?_⟩
      rw [Int.toNat_natCast]
      generalize l.getD i 0 = d at hzz ⊢
      show (if (decide (d < 1) || decide (4096 < d)) = true then _ else _)
      by_cases hd : (decide (d < 1) || decide (4096 < d)) = true
      · rw [if_pos hd] at hzz ⊢
        show (if true = true then _ else _)
        rw [if_pos rfl]
        have : decide (0 < z) = false := by rw [<- hzz]; rfl
        rw [this] at h; exact h
      · rw [if_neg hd] at hzz ⊢
        simp only [Bool.or_eq_true, decide_eq_true_eq, not_or] at hd
        refine ⟨by omega, ?_⟩
        have ht := aEU (x := d) (n := acc) (by omega) (by omega) ha hb
        show (if (decide (IntKind.i64.wrap ((8192 : Int).tdiv d) < acc)) = true then _ else _)
        by_cases h3 : 8192 < acc * d
        · rw [if_pos h3] at hzz
          rw [if_pos (decide_eq_true (ht.2 h3))]
          have : decide (0 < z) = false := by rw [<- hzz]; rfl
          rw [this] at h; exact h
        · rw [if_neg h3] at hzz
          rw [if_neg (by simp; exact Int.not_lt.1 (fun hh => h3 (ht.1 hh)))]
          have hb2 := AU acc d 8192 4096 (by omega) (by omega) (by omega) (by omega) (by omega)
          rw [aA (acc * d) (by omega) (by omega), aA ((i : Int) + 1) (by omega) (by omega)]
          exact hX (m - 1) _ (by omega) ⟨i + 1, by omega, rfl, VW ha (by omega), by show acc * d <= 8192; omega, hzz⟩
    · have hil : i = l.length := by omega
      subst hil
      rw [if_neg (by simp)]
      rw [List.drop_length] at hzz
      unfold pW at hzz
      have : decide (0 < z) = true := by rw [<- hzz]; exact decide_eq_true (by omega)
      rw [this] at h; exact h
theorem MT {l : List Int} {Q : Int -> Prop} (h : Q (szF l)) : fT l Q := by
  refine ⟨?_⟩
  refine D7 ?_
  by_cases hp : 0 < szF l
  · rw [if_neg (by simp [hp])]
    have hp2 := hp
    unfold szF at hp2 h
    split at hp2
    · omega
    · rename_i e
      rw [if_neg e] at h
      have hl : l.length <= 4 := by simp only [Bool.or_eq_true, decide_eq_true_eq, not_or] at e; omega
      obtain ⟨z, hz⟩ : ∃ z, pW 1 l = z := ⟨_, rfl⟩
      rw [hz] at h hp2
      refine ⟨?_⟩
      refine Loop.inv (n := l.length) (fun m s => ∃ i : Nat, i + m = l.length /\ s.2 = (i : Int) /\ 1 <= s.1 /\ s.1 <= 8192 /\ pW s.1 (l.drop i) = z) ⟨0, by omega, rfl, by show 1 <= (1 : Int); omega, by show (1 : Int) <= 8192; omega, hz⟩ ?_
      rintro m ⟨acc, i'⟩ X ⟨i, hi, he, ha, hb, hzz⟩ hX
      simp only at he ha hb hzz
      subst he
      unfold pM
      by_cases hlt : i < l.length
      · rw [SL hlt, RU ha hb] at hzz
        rw [if_pos (decide_eq_true (show (i : Int) < (l.length : Int) by omega))]
        dsimp only
        refine ⟨by omega, ?_⟩
        rw [Int.toNat_natCast]
        generalize l.getD i 0 = d at hzz ⊢
        split at hzz
        · omega
        · rename_i hd
          simp only [Bool.or_eq_true, decide_eq_true_eq, not_or] at hd
          split at hzz
          · omega
          · have hb2 := AU acc d 8192 4096 (by omega) (by omega) (by omega) (by omega) (by omega)
            rw [aA (acc * d) (by omega) (by omega), aA ((i : Int) + 1) (by omega) (by omega)]
            exact hX (m - 1) _ (by omega) ⟨i + 1, by omega, rfl, VW ha (by omega), by show acc * d <= 8192; omega, hzz⟩
      · have hil : i = l.length := by omega
        subst hil
        rw [if_neg (by simp)]
        rw [List.drop_length] at hzz
        unfold pW at hzz
        dsimp only
        rw [hzz]
        exact h
  · rw [if_pos (by simp; omega)]
    have : szF l = 0 := by have := AE l; omega
    rw [this] at h; exact h
theorem aFc {n k s p:Int} {Q:Int->Prop} (hp : -1000000<=p/\p<=1000000) (h:Q (aS n k s p)):jH n k s p Q:=by
 refine ⟨?_⟩
 unfold aS rD inP at h
 by_cases h1:(1<=n/\n<=16)/\(1<=k/\k<=5)
 ·rw [aA (2*p) (by omega) (by omega),aA (n+2*p) (by omega) (by omega)]
  by_cases h2:(1<=s/\s<=4)/\(0<=p/\p<=k-1)/\k<=n+2*p
  ·rw [if_neg (by simp; omega)] at h
   rw [if_neg (by simp; omega)]
   have d0:0<=(n+2*p-k) / s:=Int.ediv_nonneg (by omega) (by omega)
   have d1:(n+2*p-k) / s<=n+2*p-k:=Int.ediv_le_self _ (by omega)
   refine ⟨by omega,?_⟩
   rw [aA (n+2*p-k) (by omega) (by omega),Int.tdiv_eq_ediv_of_nonneg (by omega),aA ((n+2*p-k) / s) (by omega) (by omega),aA _ (by omega) (by omega)]
   exact h
  ·rw [if_pos (by simp; omega)] at h
   rw [if_pos (by simp; omega)]
   exact h
 ·rw [if_pos (by simp; omega)] at h
  rw [if_pos (by simp; omega)]
  exact h
end Go.Proofs.YtcfpfefadlnmcaaGreat

namespace Go.Proofs.YtcfpfefadlnmcaaGreat
open Go.Mach Go.RowKit
set_option maxRecDepth 100000
set_option linter.unusedVariables false
set_option linter.unusedSimpArgs false
theorem R8 {B:Int->(Int->Prop)->Prop} (a b:List Int) (hl:a.length=b.length) {K0 K1:Prop} (step:∀ i:Nat,i<a.length->∀ X:Int->Prop,(a.getD i 0=b.getD i 0->X ((i+1:Nat):Int))->(a.getD i 0≠b.getD i 0->K1)->B (i:Int) X) (last:K0->∀ X,B (a.length:Int) X) (h:if a=b then K0 else K1):Go.Mach.Loop B 0:=by
 refine Loop.range (B:=B) (f:=fun i:Nat=>(i:Int)) a.length (fun i=>∀ j,j<i->a.getD j 0=b.getD j 0) (fun j hj=>absurd hj (by omega)) ?_ ?_
 ·intro i hi hI X hX
  refine step i hi X (fun e=>hX fun j hj => ?_) (fun e => ?_)
  ·by_cases g:j=i
   ·subst g; exact e
   ·exact hI j (by omega)
  ·rw [if_neg (fun g=>e (by rw [g]))] at h
   exact h
 ·intro hI X
  refine last ?_ X
  rw [if_pos (aAw hl hI)] at h
  exact h
theorem aAa {a b:List Int} {Q:Bool->Prop} (hl:a.length<=1000000) (h:Q (decide (a=b))):cN a b Q:=by
 refine ⟨?_⟩
 by_cases e:a.length=b.length
 ·rw [if_neg (by simp [e])]
  refine ⟨?_⟩
  refine R8 (B:=eG a b (a.length:Int) _ _) a b e (K0:=Q true) (K1:=Q false) ?_ ?_ ?_
  ·intro i hi X hX hK
   unfold eG
   rw [if_pos (by simpa using hi)]
   refine ⟨by omega,by omega,?_⟩
   simp only [Int.toNat_natCast]
   by_cases g:a.getD i 0=b.getD i 0
   ·rw [if_neg (by simpa using g),aA _ (by omega) (by omega)]; exact hX g
   ·rw [if_pos (by simpa using g)]; exact hK g
  ·intro hK X
   unfold eG
   rw [if_neg (by simp)]
   exact hK
  ·by_cases g:a=b
   ·rw [if_pos g]; simpa [g] using h
   ·rw [if_neg g]; simpa [g] using h
 ·rw [if_pos (by simp; omega)]
  rw [decide_eq_false (fun g=>e (by rw [g]))] at h
  exact h
end Go.Proofs.YtcfpfefadlnmcaaGreat

namespace Go.Proofs.YtcfpfefadlnmcaaGreat
open Go.Mach Go.RowKit
set_option maxRecDepth 100000
set_option linter.unusedVariables false
set_option linter.unusedSimpArgs false
theorem aAU {n k s p:Int} {Q:Int->Prop} (h:Q (aS n k s p)):jH n k s p Q:=by
 by_cases hp:0<=p/\p<k/\k<=5
 ·exact aFc (by omega) h
 ·refine ⟨?_⟩
  unfold aS rD inP at h
  rw [if_pos (by simp; omega)] at h
  rw [if_pos (by simp; omega)]
  exact h
end Go.Proofs.YtcfpfefadlnmcaaGreat

namespace Go.Proofs.YtcfpfefadlnmcaaGreat
open Go.Mach Go.RowKit
set_option maxRecDepth 100000
set_option linter.unusedVariables false
set_option linter.unusedSimpArgs false
end Go.Proofs.YtcfpfefadlnmcaaGreat

namespace Go.Proofs.YtcfpfefadlnmcaaGreat
open Go.Mach
set_option maxRecDepth 100000
set_option linter.unusedVariables false
set_option linter.unusedSimpArgs false
theorem BS {a lo hi:Int} {Q:Bool->Prop} (h:Q (inP a lo hi)):bB a lo hi Q:=⟨h⟩
theorem aDM {a:Int×Int×Int} {Q:Bool->Prop} (h:Q (m8 a)):m7 a Q:=by
 refine ⟨BS ?_⟩
 unfold m8 at h
 refine tT (c:=inP a.2.1 1 16) (fun _ P hP=>BS hP) (fun v e => ?_) rfl
 refine tT (c:=inP a.2.2 1 16) (fun _ P hP=>BS hP) (fun v2 e2 => ?_) rfl
 rw [e2,e]
 exact h
theorem OJ {K:Unit->Prop} (h:K ()):cK K:=⟨h⟩
theorem aDm {x:Lay} {n:Int} {Q:Bool->Prop} (h:Q (nN x n)):jW x n Q:=by
 obtain ⟨kd,ou,k,st,pd,fr,fz⟩:=x
 refine ⟨?_⟩
 dsimp only
 unfold nN at h
 dsimp only at h
 have fin:∀ {b:Bool} {k' st' fr':Int},(b&&((kd==kd)&&((ou==0)&&((k==k')&&((st==st')&&((pd==0)&&((fr==fr')&&((fz==false)&&(true)))))))))
   = (b&&((ou==0)&&((k==k')&&((st==st')&&((pd==0)&&((fr==fr')&&(fz==false))))))):=by
  intro b k' st' fr'
  simp
 by_cases h1:kd=1
 ·rw [if_pos h1] at h
  rw [if_pos (by simpa using h1)]
  refine BS (OJ (cast (congrArg Q ?_) h))
  simp
 rw [if_neg h1] at h
 rw [if_neg (by simpa using h1)]
 by_cases h2:kd=2
 ·rw [if_pos h2] at h
  rw [if_pos (by simpa using h2)]
  refine BS ?_
  refine tT (c:=inP k 1 5) (fun _ P hP=>BS hP) (fun v e => ?_) rfl
  refine tT (c:=inP st 1 4) (fun _ P hP=>BS hP) (fun v2 e2 => ?_) rfl
  refine tT (c:=inP pd 0 (IntKind.i64.wrap (k-1))) (fun _ P hP=>BS hP) (fun v3 e3 => ?_) rfl
  refine OJ (cast (congrArg Q ?_) h)
  rw [e3,e2,e]
  unfold ZS
  simp [Bool.and_assoc]
 rw [if_neg h2] at h
 rw [if_neg (by simpa using h2)]
 have win:∀ {K0:Bool×Int×Int×Int->Prop} {K1:Unit->Prop} {x1:Bool},K0 (ZS (kd,ou,k,st,pd,fr,fz),k,st,0)->fD n x1 kd true k st fr 0 0 0 K0 K1:=by
  intro K0 K1 x1 hK
  refine ⟨?_⟩
  rw [if_pos rfl]
  refine BS ?_
  refine tT (c:=inP st 1 4) (fun _ P hP=>BS hP) (fun v e => ?_) rfl
  rw [e]
  exact hK
 by_cases h3:kd=3
 ·rw [if_pos (.inl h3)] at h
  rw [if_pos (by simpa using h3)]
  have e3:(kd==3)=true:=by simpa using h3
  rw [e3]
  refine win (OJ (cast (congrArg Q ?_) h))
  rw [fin]
  simp
 rw [if_neg (by simpa using h3)]
 by_cases h4:kd=4
 ·rw [if_pos (.inr h4)] at h
  have e4:(kd==4)=true:=by simpa using h4
  rw [e4]
  refine win (OJ (cast (congrArg Q ?_) h))
  rw [fin]
  simp
 rw [if_neg (by omega)] at h
 have e4:(kd==4)=false:=by simpa using h4
 rw [e4]
 refine ⟨?_⟩
 rw [if_neg (by simp)]
 by_cases h5:kd=5
 ·rw [if_pos (.inl h5)] at h
  have e5:(kd==5)=true:=by simpa using h5
  rw [if_pos e5,e5]
  refine ⟨?_⟩
  rw [if_pos rfl]
  refine OJ (cast (congrArg Q ?_) h)
  rw [fin]
  simp
 rw [if_neg (by simpa using h5)]
 by_cases h6:kd=6
 ·rw [if_pos (.inr h6)] at h
  have e6:(kd==6)=true:=by simpa using h6
  rw [e6]
  refine ⟨?_⟩
  rw [if_pos rfl]
  refine OJ (cast (congrArg Q ?_) h)
  rw [fin]
  simp
 rw [if_neg (by omega)] at h
 have e6:(kd==6)=false:=by simpa using h6
 rw [e6]
 refine ⟨?_⟩
 rw [if_neg (by simp)]
 by_cases h7:kd=7
 ·rw [if_pos h7] at h
  rw [if_pos (by simpa using h7)]
  refine BS (OJ (cast (congrArg Q ?_) h))
  rw [fin]
  simp
 ·rw [if_neg h7] at h
  rw [if_neg (by simpa using h7)]
  exact h
theorem aEX {m : Mdl} {Q : Bool -> Prop} (hl : m.2.length <= 10000000000000) (h : Q (qG m)) : jZ m Q := by
  refine ⟨aDM ?_⟩
  unfold qG at h
  refine kI (c := !inP (m.2.length : Int) 1 12) (fun _ P hP => BS hP) (fun v e => ?_) rfl
  cases v with
  | true =>
    rw [if_pos rfl]
    have e : (!m8 m.1 || !inP (m.2.length : Int) 1 12) = true := e.symm
    have : (m8 m.1 && inP (m.2.length : Int) 1 12) = false := by
      revert e
      cases m8 m.1 <;> cases inP (m.2.length : Int) 1 12 <;> simp
    rw [this] at h
    exact h
  | false =>
    rw [if_neg (by simp)]
    have e : (!m8 m.1 || !inP (m.2.length : Int) 1 12) = false := e.symm
    have : (m8 m.1 && inP (m.2.length : Int) 1 12) = true := by
      revert e
      cases m8 m.1 <;> cases inP (m.2.length : Int) 1 12 <;> simp
    rw [this, Bool.true_and] at h
    refine ⟨?_⟩
    refine Loop.range (B := dW m.2 (m.2.length : Int) (fun _ => Q true) (fun _ => Q false)) m.2.length (fun i => (i : Int)) (fun i => ∀ j, j < i -> nN (m.2.getD j bA) j = true) (fun j hj => absurd hj (by omega)) ?_ ?_
    · intro i hi hI X hX
      unfold dW
      rw [if_pos (decide_eq_true (show (i : Int) < (m.2.length : Int) by omega))]
      refine ⟨by omega, aDm ?_⟩
      simp only [Int.toNat_natCast]
      show if (!nN (m.2.getD i bA) i) = true then _ else _
      cases hb : nN (m.2.getD i bA) i with
      | true =>
        rw [if_neg (by simp), aA _ (by omega) (by omega)]
        refine hX fun j hj => ?_
        by_cases hji : j = i
        · subst hji; exact hb
        · exact hI j (by omega)
      | false =>
        rw [if_pos (by rfl)]
        have : EZ m.2 = false := by
          unfold EZ
          rw [List.all_eq_false]
          exact ⟨i, List.mem_range.2 hi, by rw [hb]; simp⟩
        rw [this] at h
        exact h
    · intro hI X
      unfold dW
      rw [if_neg (by simp)]
      have : EZ m.2 = true := by
        unfold EZ
        rw [List.all_eq_true]
        intro j hj
        exact hI j (List.mem_range.1 hj)
      rw [this] at h
      exact h
def DimOk (d:List Int):Prop:=(∃ n,d=[n]/\1<=n/\n<=4096)\/∃ c p q,d=[c,p,q]/\(1<=c/\c<=8)/\(1<=p/\p<=20)/\(1<=q/\q<=20)
theorem aGr {c p q:Int} (h1:1<=c/\c<=8) (h2:1<=p/\p<=20) (h3:1<=q/\q<=20):1<=c*p*q/\c*p*q<=3200/\1<=c*p/\c*p<=160:=by
 have a1:c*p<=8*20:=Int.mul_le_mul h1.2 h2.2 (by omega) (by omega)
 have a2:1*1<=c*p:=Int.mul_le_mul h1.1 h2.1 (by omega) (by omega)
 have a3:c*p*q<=160*20:=Int.mul_le_mul (by omega) h3.2 (by omega) (by omega)
 have a4:1*1<=c*p*q:=Int.mul_le_mul (by omega) h3.1 (by omega) (by omega)
 omega
theorem DimOk.sz {d:List Int} (h:DimOk d):0<szF d/\qA d=szF d/\szF d<=4096/\d≠[]/\d.length<=3/\1<=d.getD 0 0/\d.getD 0 0<=4096:=by
 rcases h with ⟨n,rfl,h1,h2⟩ | ⟨c,p,q,rfl,h1,h2,h3⟩
 ·rw [aE9 h1 h2]
  refine ⟨by omega,?_,by omega,by simp,by simp,by simpa using h1,by simpa using h2⟩
  show IntKind.i64.wrap (1*n)=n
  rw [Int.one_mul,aA _ (by omega) (by omega)]
 ·obtain ⟨a1,a2,a3,a4⟩:=aGr h1 h2 h3
  have e:szF [c,p,q]=c*p*q:=by
   rw [ZM (by simp) (by intro d hd; simp at hd; omega) (by show c*(p*(q*1))<=8192; rw [Int.mul_one,<- Int.mul_assoc]; omega)]
   show c*(p*(q*1))=_
   rw [Int.mul_one,Int.mul_assoc]
  rw [e]
  refine ⟨by omega,?_,by omega,by simp,by simp,by simpa using h1.1,by show c<=4096; omega⟩
  show IntKind.i64.wrap (IntKind.i64.wrap (IntKind.i64.wrap (1*c)*p)*q)=c*p*q
  rw [Int.one_mul,aA c (by omega) (by omega),aA (c*p) (by omega) (by omega),aA _ (by omega) (by omega)]
theorem aEv {n k s p:Int} (h:aS n k s p≠0):1<=aS n k s p/\aS n k s p<=20:=by
 have:=vM n k s p
 obtain ⟨a,b,c,d,e,f⟩:=mX (n:=n) (k:=k) (s:=s) (p:=p) (by omega)
 have h1:(n+2*p-k) / s<=n+2*p-k:=Int.ediv_le_self _ (by omega)
 omega
theorem R7 {d:List Int} {c:Int} {x:Lay} (hc:1<=c/\c<=8) (h:i9 d c x≠[]):DimOk (i9 d c x):=by
 unfold i9 at h ⊢
 split at h
 ·rename_i h3
  rw [if_pos h3]
  split at h
  ·exact absurd rfl h
  ·rename_i h4
   rw [if_neg h4]
   exact .inr ⟨_,_,_,rfl,hc,aEv (fun e=>h4 (.inl e)),aEv (fun e=>h4 (.inr e))⟩
 ·exact absurd rfl h
theorem O9 {x:Lay} {n:Int} (h:nN x n=true):(x.1=1/\1<=x.2.1/\x.2.1<=4096)\/(x.1=2/\1<=x.2.1/\x.2.1<=8)\/((x.1=3\/x.1=4)/\x.2.2.2.2.1=0)\/x.1=5\/x.1=6\/x.1=7:=by
 unfold nN at h
 split at h
 ·simp only [Bool.and_eq_true,inP,decide_eq_true_eq] at h
  exact .inl ⟨by assumption,h.1⟩
 split at h
 ·simp only [Bool.and_eq_true,inP,decide_eq_true_eq] at h
  exact .inr (.inl ⟨by assumption,h.1.1.1⟩)
 split at h
 ·simp only [Bool.and_eq_true,beq_iff_eq] at h
  exact .inr (.inr (.inl ⟨by assumption,h.2.2.1⟩))
 split at h
 ·rename_i e; rcases e with e | e
  ·exact .inr (.inr (.inr (.inl e)))
  ·exact .inr (.inr (.inr (.inr (.inl e))))
 split at h
 ·rename_i e; exact .inr (.inr (.inr (.inr (.inr e))))
 ·cases h
theorem JT {x:Lay} {l:List (List Int)} {d:List Int} {n:Int} (hm:nN x n=true) (hd:DimOk d) (h:dL x l d≠[]):DimOk (dL x l d):=by
 unfold dL at h ⊢
 rcases O9 hm with ⟨e,h1,h2⟩ | ⟨e,h1,h2⟩ | ⟨e,h1⟩ | e | e | e
 ·rw [if_pos e] at h ⊢
  split at h
  ·rename_i h3; rw [if_pos h3]; exact .inl ⟨_,rfl,h1,h2⟩
  ·exact absurd rfl h
 ·rw [if_neg (by omega),if_pos e] at h ⊢
  exact R7 ⟨h1,h2⟩ h
 ·rw [if_neg (by omega),if_neg (by omega),if_pos e] at h ⊢
  refine R7 ?_ h
  unfold i9 at h
  split at h
  ·rename_i h3
   rcases hd with ⟨n,rfl,_⟩ | ⟨c,p,q,rfl,hc,_⟩
   ·simp at h3
   ·exact hc
  ·exact absurd rfl h
 ·rw [if_neg (by omega),if_neg (by omega),if_neg (by omega),if_pos e]
  exact hd
 ·rw [if_neg (by omega),if_neg (by omega),if_neg (by omega),if_neg (by omega),if_pos e]
  obtain ⟨q1,q2,q3,_⟩:=hd.sz
  exact .inl ⟨_,rfl,by omega,by omega⟩
 ·rw [if_neg (by omega),if_neg (by omega),if_neg (by omega),if_neg (by omega),if_neg (by omega),if_pos e] at h ⊢
  split at h
  ·rename_i h3; rw [if_pos h3]; exact hd
  ·exact absurd rfl h
theorem OW {a b k s p:Int} {Q:Int×Int->Prop} (h:Q (aS a k s p,aS b k s p)):gR a b k s p Q:=⟨aAU (aAU h)⟩
theorem aET {l:List Int} {K0:Int->Prop} (hl:l.length<=1000000) (h:K0 (qA l)):eB l (l.length:Int) K0 (1,0):=by
 refine ⟨?_⟩
 refine Loop.range (B:=fL l (l.length:Int) K0) l.length (fun i=>(qA (l.take i),(i:Int))) (fun _=>True) trivial ?_ ?_
 ·intro i hi _ X hX
  unfold fL
  dsimp only
  rw [if_pos (decide_eq_true (show (i:Int)<(l.length:Int) by omega))]
  refine ⟨by omega,?_⟩
  rw [Int.toNat_natCast,aA ((i:Int)+1) (by omega) (by omega)]
  have hX:=hX trivial
  have e:qA (l.take (i+1))=IntKind.i64.wrap (qA (l.take i)*l.getD i 0):=by
   rw [yQ hi 0]; unfold qA; rw [List.foldl_append]; rfl
  rw [e] at hX
  exact hX
 ·intro _ X
  unfold fL
  rw [if_neg (by simp)]
  dsimp only
  rw [List.take_length]
  exact h
theorem aCF {x : Lay} {d : List Int} {l : List (List Int)} {n : Int} {Q : List Int × Bool -> Prop} (hm : nN x n = true) (hd : DimOk d) (hx : x.1 = 7 -> 0 <= x.2.2.2.2.2.1 /\ x.2.2.2.2.2.1 < (l.length : Int)) (h1 : dL x l d ≠ [] -> Q (dL x l d, true)) (h2 : dL x l d = [] -> ∀ r, Q (r, false)) : mO x d l Q := by
  obtain ⟨z1, z2, z3, z4, z5, z6, z7⟩ := hd.sz
  refine ⟨?_⟩
  have pl : ∀ c : Int, (i9 d c x ≠ [] -> Q (i9 d c x, true)) -> (i9 d c x = [] -> ∀ r, Q (r, false)) -> (((d.length : Int) != 3) = true -> Q ([], false)) /\ (((d.length : Int) != 3) = false -> d.length = 3 /\ bS (aS (d.getD 1 0) x.2.2.1 x.2.2.2.1 x.2.2.2.2.1) (aS (d.getD 2 0) x.2.2.1 x.2.2.2.1 x.2.2.2.2.1) fun y => Q ([c, aS (d.getD 1 0) x.2.2.1 x.2.2.2.1 x.2.2.2.2.1, aS (d.getD 2 0) x.2.2.1 x.2.2.2.1 x.2.2.2.2.1], y)) := by
    intro c k1 k2
    refine ⟨fun h => ?_, fun h => ?_⟩
    · refine k2 ?_ _
      unfold i9
      rw [if_neg (by intro e; rw [e] at h; simp at h)]
    · have h3 : d.length = 3 := by have : (d.length : Int) = 3 := by simpa using h
                                   omega
      refine ⟨h3, ⟨?_⟩⟩
      unfold i9 at k1 k2
      rw [if_pos h3] at k1 k2
      obtain ⟨a1, _⟩ := vM (d.getD 1 0) x.2.2.1 x.2.2.2.1 x.2.2.2.2.1
      obtain ⟨b1, _⟩ := vM (d.getD 2 0) x.2.2.1 x.2.2.2.1 x.2.2.2.2.1
      by_cases h4 : aS (d.getD 1 0) x.2.2.1 x.2.2.2.1 x.2.2.2.2.1 = 0 \/ aS (d.getD 2 0) x.2.2.1 x.2.2.2.1 x.2.2.2.2.1 = 0
      · rw [if_pos h4] at k2
        have e : (decide (0 < aS (d.getD 1 0) x.2.2.1 x.2.2.2.1 x.2.2.2.2.1) && decide (0 < aS (d.getD 2 0) x.2.2.1 x.2.2.2.1 x.2.2.2.2.1)) = false := by
          simp only [Bool.and_eq_false_iff, decide_eq_false_iff_not]; omega
        rw [e]
        exact k2 rfl _
      · rw [if_neg h4] at k1
        have e : (decide (0 < aS (d.getD 1 0) x.2.2.1 x.2.2.2.1 x.2.2.2.2.1) && decide (0 < aS (d.getD 2 0) x.2.2.1 x.2.2.2.1 x.2.2.2.2.1)) = true := by
          simp only [Bool.and_eq_true, decide_eq_true_eq]; omega
        rw [e]
        exact k1 (by simp)
  have dd : 0 < d.length := List.length_pos_iff.2 z4
  unfold dL at h1 h2
  rcases O9 hm with ⟨e, _⟩ | ⟨e, _⟩ | ⟨e, _⟩ | e | e | e
  · rw [if_pos e] at h1 h2
    rw [if_pos (by simpa using e)]
    by_cases h3 : d.length = 1
    · rw [if_pos h3] at h1
      have : ((d.length : Int) == 1) = true := by simp [h3]
      rw [this]; exact h1 (by simp)
    · rw [if_neg h3] at h2
      have : ((d.length : Int) == 1) = false := by simp; omega
      rw [this]; exact h2 rfl _
  · rw [if_neg (by omega), if_pos e] at h1 h2
    obtain ⟨p1, p2⟩ := pl x.2.1 h1 h2
    have e2 : (x.1 == 2) = true := by simpa using e
    rw [if_neg (by simp [e]), if_pos e2, if_pos e2]
    split
    · exact p1 (by assumption)
    · rename_i hn
      obtain ⟨g1, g2⟩ := p2 (by simpa using hn)
      exact ⟨by omega, by omega, OW ⟨by omega, g2⟩⟩
  · rw [if_neg (by omega), if_neg (by omega), if_pos e] at h1 h2
    obtain ⟨p1, p2⟩ := pl (d.getD 0 0) h1 h2
    rw [if_neg (by simp; omega), if_neg (by simp; omega)]
    rcases e with e | e
    · have e2 : (x.1 == 3) = true := by simpa using e
      rw [if_pos e2, if_pos e2]
      split
      · exact p1 (by assumption)
      · rename_i hn
        obtain ⟨g1, g2⟩ := p2 (by simpa using hn)
        refine ⟨by omega, by omega, OW ⟨by omega, ?_⟩⟩
        rw [if_neg (by simp; omega)]
        exact g2
    · have e2 : (x.1 == 4) = true := by simpa using e
      rw [if_neg (by simp; omega), if_pos e2]
      split
      · exact p1 (by assumption)
      · rename_i hn
        obtain ⟨g1, g2⟩ := p2 (by simpa using hn)
        refine ⟨by omega, by omega, OW ⟨by omega, ?_⟩⟩
        rw [if_neg (by simp; omega)]
        exact g2
  · rw [if_neg (by omega), if_neg (by omega), if_neg (by omega), if_pos e] at h1 h2
    rw [if_neg (by simp; omega), if_neg (by simp; omega), if_neg (by simp; omega), if_neg (by simp; omega), if_neg (by simp; omega), if_neg (by simp; omega)]
    exact ⟨by omega, h1 z4⟩
  · rw [if_neg (by omega), if_neg (by omega), if_neg (by omega), if_neg (by omega), if_pos e] at h1 h2
    rw [if_neg (by simp; omega), if_neg (by simp; omega), if_neg (by simp; omega), if_neg (by simp; omega), if_pos (by simpa using e)]
    exact aET (by omega) (h1 (by simp))
  · rw [if_neg (by omega), if_neg (by omega), if_neg (by omega), if_neg (by omega), if_neg (by omega), if_pos e] at h1 h2
    rw [if_neg (by simp; omega), if_neg (by simp; omega), if_neg (by simp; omega), if_neg (by simp; omega), if_neg (by simp; omega), if_pos (by simpa using e)]
    refine ⟨by omega, hx e, aAa (by omega) ?_⟩
    by_cases h3 : l.getD x.2.2.2.2.2.1.toNat [] = d
    · rw [if_pos h3] at h1
      rw [decide_eq_true (show d = l.getD x.2.2.2.2.2.1.toNat [] from h3.symm)]
      exact h1 z4
    · rw [if_neg h3] at h2
      rw [decide_eq_false (show ¬ d = l.getD x.2.2.2.2.2.1.toNat [] from fun e => h3 e.symm)]
      exact h2 rfl _
end Go.Proofs.YtcfpfefadlnmcaaGreat

namespace Go.Proofs.YtcfpfefadlnmcaaGreat
open Go.Mach
set_option maxRecDepth 100000
set_option linter.unusedVariables false
set_option linter.unusedSimpArgs false
theorem S7 {m:Mdl} (h:qG m=true):(∃ c p q,inL m=[c,p,q]/\(1<=c/\c<=8)/\(1<=p/\p<=16)/\(1<=q/\q<=16))/\DimOk (inL m):=by
 obtain ⟨⟨h1,h2,h3⟩,_⟩:=jX h
 exact ⟨⟨_,_,_,rfl,h1,h2,h3⟩,.inr ⟨_,_,_,rfl,h1,by omega,by omega⟩⟩
theorem OY {m:Mdl} (h:qG m=true):aF m=bW m.2 0 [inL m]:=by
 obtain ⟨_,h2⟩:=S7 h
 obtain ⟨q1,q2,q3,_⟩:=h2.sz
 unfold aF
 rw [if_pos h,if_neg (by omega)]
theorem ET {x:Lay} {r:List Lay} {i:Int} {l:List (List Int)} {n:Int} (hm:nN x n=true) (hd:DimOk (l.getD (l.length-1) [])) :
  bW (x::r) i l=if dL x l (l.getD (l.length-1) [])=[] then ([],i+1,2) else bW r (i+1) (l++[dL x l (l.getD (l.length-1) [])]):=by
 rw [bW]
 split
 ·rfl
 ·rename_i h
  have hg:=JT hm hd h
  obtain ⟨q1,q2,q3,_⟩:=hg.sz
  rw [if_neg (by omega)]
theorem aCK {m:Mdl} {i:Nat} (h:qG m=true) (hi:i<m.2.length):nN (m.2.getD i bA) i=true/\((m.2.getD i bA).1=7->0<=(m.2.getD i bA).2.2.2.2.2.1/\(m.2.getD i bA).2.2.2.2.2.1<=(i:Int)-1):=by
 obtain ⟨_,⟨k1,k2⟩,k3⟩:=jX h
 refine ⟨k3 i hi,fun h7 => ?_⟩
 have:=zU (k3 i hi) h7
 rw [aA ((i:Int)-1) (by omega) (by omega)] at this
 exact this
theorem JK {m : Mdl} {Q : List (List Int) × Int × Int -> Prop} (hl : m.2.length <= 10000000000000) (h : Q (aF m)) : fN m Q := by
  refine ⟨aEX hl ?_⟩
  cases hm : qG ((m.1.1, m.1.2.1, m.1.2.2), m.2) with
  | false =>
    unfold aF at h
    have hm : qG m = false := hm
    rw [hm, if_neg (by simp)] at h
    exact h
  | true =>
    have hm : qG m = true := hm
    rw [if_neg (by simp)]
    rw [OY hm] at h
    obtain ⟨_, ⟨k1, k2⟩, k3⟩ := jX hm
    refine ⟨?_⟩
    refine Loop.rangeI (B := eW m.2 (m.2.length : Int) (fun y => Q (y, 0, 0)) (fun y => Q ([], y.1, y.2))) m.2.length
      (fun i z => z.1 = (i : Int) /\ z.2.length = i + 1 /\ (∀ d ∈ z.2, DimOk d) /\ Q (bW (m.2.drop i) i z.2))
      ⟨rfl, rfl, (fun d hd => by rw [List.mem_singleton.1 hd]; exact (S7 hm).2), by rw [List.drop_zero]; exact h⟩ ?_ ?_
    · rintro i hi ⟨z1, z2⟩ ⟨rfl, e1, hd, hq⟩ X hX
      unfold eW
      dsimp only at e1 hd hq ⊢
      rw [if_pos (decide_eq_true (show (i : Int) < (m.2.length : Int) by omega))]
      refine ⟨by omega, by omega, ?_⟩
      rw [aA ((i : Int) + 1) (by omega) (by omega)]
      simp only [Int.toNat_natCast]
      rw [List.drop_eq_getElem_cons hi] at hq
      have eg : m.2.getD i bA = m.2[i] := by rw [List.getD_eq_getElem?_getD, List.getElem?_eq_getElem hi]; rfl
      rw [<- eg] at hq
      have hdi : DimOk (z2.getD i []) := by
        rw [List.getD_eq_getElem?_getD, List.getElem?_eq_getElem (by omega)]
        exact hd _ (List.getElem_mem _)
      obtain ⟨g1, g2⟩ := aCK hm hi
      have el : z2.length - 1 = i := by omega
      rw [ET g1 (by rw [el]; exact hdi), el] at hq
      refine aCF (n := (i : Int)) g1 hdi (fun h7 => ?_) (fun hne => ?_) (fun he r => ?_)
      · have := g2 h7
        exact ⟨this.1, by show (m.2.getD i bA).2.2.2.2.2.1 < (z2.length : Int); omega⟩
      · rw [if_neg (by simp)]
        have hg := JT g1 hdi hne
        obtain ⟨q1, q2, q3, _⟩ := hg.sz
        refine D7 ?_
        have q1' : 0 < szF (dL (m.2.getD i bA) z2 (z2.getD i [])) := q1
        rw [decide_eq_true q1', if_neg (by simp)]
        have hne' : ¬ dL (m.2.getD i bA) z2 (z2.getD i []) = [] := hne
        rw [if_neg hne'] at hq
        refine ⟨by simp; omega, hX _ ⟨rfl, by simp [e1], ?_, hq⟩⟩
        intro d hdm
        rcases List.mem_append.1 hdm with hdm | hdm
        · exact hd d hdm
        · rw [List.mem_singleton.1 hdm]; exact hg
      · rw [if_pos (by rfl)]
        have he' : dL (m.2.getD i bA) z2 (z2.getD i []) = [] := he
        rw [if_pos he'] at hq
        exact hq
    · rintro ⟨z1, z2⟩ ⟨rfl, e1, hd, hq⟩ X
      unfold eW
      dsimp only at hq ⊢
      rw [if_neg (by simp)]
      rw [List.drop_length] at hq
      exact hq
theorem EX : ∀ (r : List Lay) (i : Nat) (l : List (List Int)), (∀ j, j < r.length -> nN (r.getD j bA) ((i + j : Nat) : Int) = true) -> l ≠ [] -> (∀ d ∈ l, DimOk d) -> (bW r i l).2.2 = 0 -> ∀ d ∈ (bW r i l).1, DimOk d
  | [], _, l, _, _, hd, _ => hd
  | x :: r, i, l, hm, hl, hd, h => by
    have hlast : DimOk (l.getD (l.length - 1) []) := by
      have := List.length_pos_iff.2 hl
      rw [List.getD_eq_getElem?_getD, List.getElem?_eq_getElem (by omega)]
      exact hd _ (List.getElem_mem _)
    have hx : nN x (i : Int) = true := by
      have := hm 0 (by simp)
      rw [Nat.add_zero] at this
      exact this
    rw [ET (n := (i : Int)) hx hlast] at h ⊢
    split at h
    · exact absurd (show (2 : Int) = 0 from h) (by decide)
    · rename_i hne
      rw [if_neg hne]
      have e : ((i : Int) + 1) = ((i + 1 : Nat) : Int) := by omega
      rw [e] at h ⊢
      refine EX r (i + 1) _ (fun j hj => ?_) (by simp) (fun d hdm => ?_) h
      · have := hm (j + 1) (by simp; omega)
        rw [show i + 1 + j = i + (j + 1) by omega]
        exact this
      · rcases List.mem_append.1 hdm with hdm | hdm
        · exact hd d hdm
        · rw [List.mem_singleton.1 hdm]; exact JT hx hlast hne
theorem tZ {m:Mdl} (h:(aF m).2.2=0):qG m=true/\(aF m).1.length=m.2.length+1/\∀ d∈(aF m).1,DimOk d:=by
 obtain ⟨h1,h2⟩:=q9 h
 refine ⟨h1,h2.len,?_⟩
 have h0:=h
 rw [OY h1] at h ⊢
 obtain ⟨_,_,k3⟩:=jX h1
 exact EX m.2 0 [inL m] (fun j hj=>by rw [Nat.zero_add]; exact k3 j hj) (by simp) (fun d hd=>by rw [List.mem_singleton.1 hd]; exact (S7 h1).2) h
theorem R6 {m:Mdl} (h:(aF m).2.2=0) {i:Nat} (hi:i<=m.2.length):DimOk ((aF m).1.getD i []):=by
 obtain ⟨_,h2,h3⟩:=tZ h
 rw [List.getD_eq_getElem?_getD,List.getElem?_eq_getElem (by omega)]
 exact h3 _ (List.getElem_mem _)
theorem U9 {x:Lay} {d:List Int} {Q:List Int×Int->Prop} (hd:d≠[]) (h:Q (ofF x d)):jT x d Q:=by
 have:=List.length_pos_iff.2 hd
 refine ⟨?_⟩
 unfold ofF at h
 by_cases h1:x.1=1
 ·rw [if_pos h1] at h
  rw [if_pos (by simpa using h1)]
  exact ⟨by omega,h⟩
 ·rw [if_neg h1] at h
  rw [if_neg (by simpa using h1)]
  by_cases h2:x.1=2
  ·rw [if_pos h2] at h
   rw [if_pos (by simpa using h2)]
   exact ⟨by omega,h⟩
  ·rw [if_neg h2] at h
   rw [if_neg (by simpa using h2)]
   exact h
theorem aE6 {m:Mdl} {i:Int} {Q:List Int×Int->Prop} (hl:m.2.length<=10000000000000) (h:Q (yY m i)):nY m i Q:=by
 refine ⟨JK hl ?_⟩
 unfold yY at h
 have e0:aF ((m.1.1,m.1.2.1,m.1.2.2),m.2)=aF m:=rfl
 rw [e0]
 split
 ·rename_i hb
  rw [if_pos hb] at h
  exact h
 ·rename_i hb
  rw [if_neg hb] at h
  have hb:=Bool.eq_false_iff.2 hb
  simp only [Bool.or_eq_false_iff,decide_eq_false_iff_not,R5] at hb
  obtain ⟨⟨b1,b2⟩,b3⟩:=hb
  obtain ⟨hm,q2,q3⟩:=tZ b1
  obtain ⟨_,⟨k1,k2⟩,_⟩:=jX hm
  rw [aA (i-1) (by omega) (by omega)]
  have hdi:=R6 b1 (i:=(i-1).toNat) (by omega)
  refine ⟨by omega,by omega,U9 hdi.sz.2.2.2.1 (D7 ?_)⟩
  have e1:(ofF (m.2.getD (i-1).toNat bA) ((aF m).1.getD (i-1).toNat []))=ofF ((m.2.getD ((i-1).toNat) (0,(0,(0,(0,(0,(0,false))))))).1,(((m.2.getD ((i-1).toNat) (0,(0,(0,(0,(0,(0,false))))))).2).1,((((m.2.getD ((i-1).toNat) (0,(0,(0,(0,(0,(0,false))))))).2).2).1,(((((m.2.getD ((i-1).toNat) (0,(0,(0,(0,(0,(0,false))))))).2).2).2).1,((((((m.2.getD ((i-1).toNat) (0,(0,(0,(0,(0,(0,false))))))).2).2).2).2).1,(((((((m.2.getD ((i-1).toNat) (0,(0,(0,(0,(0,(0,false))))))).2).2).2).2).2).1,((((((m.2.getD ((i-1).toNat) (0,(0,(0,(0,(0,(0,false))))))).2).2).2).2).2).2)))))) ((aF m).1.getD (i-1).toNat []):=rfl
  rw [<- e1]
  by_cases hs:0<szF (ofF (m.2.getD (i-1).toNat bA) ((aF m).1.getD (i-1).toNat [])).1
  ·rw [if_pos hs] at h
   rw [decide_eq_true hs,if_neg (by simp)]
   exact h
  ·rw [if_neg hs] at h
   rw [decide_eq_false hs,if_pos (by rfl)]
   exact h
end Go.Proofs.YtcfpfefadlnmcaaGreat

namespace Go.Proofs.YtcfpfefadlnmcaaGreat
open Go.Mach
set_option maxRecDepth 100000
set_option linter.unusedVariables false
set_option linter.unusedSimpArgs false
theorem aDk (a:Int):∃ v,∀ Q:Int->Prop,Q v->eZ a Q:=⟨_,fun Q h=>⟨⟨by decide,by decide,by decide,h⟩⟩⟩
theorem HM {a:Int} {Q:Int->Prop} (h:∀ r,Q r):eZ a Q:=let ⟨v,k⟩:=aDk a; k Q (h v)
theorem aDq {a b c:Int} {Q:Int->Prop} (h:∀ r,Q r):rU a b c Q:=⟨HM fun _=>HM fun _=>HM h⟩
theorem aAM {a b c n : Int} {Q : Int -> Prop} (h : ∀ r, Q r) : nW a b c n Q := by
  refine ⟨?_⟩
  split
  · exact h 0
  · rename_i hn
    have hn := Bool.eq_false_iff.2 hn
    simp only [Bool.or_eq_false_iff, decide_eq_false_iff_not] at hn
    have e : IntKind.u64.wrap n = n := by
      simp only [IntKind.wrap, IntKind.bits, IntKind.signed]
      simp
      omega
    rw [e]
    refine ⟨by omega, by omega, aDq fun r => ⟨?_⟩⟩
    refine Loop.rangeI (B := gE n _ (fun _ => Q 0) (fun y => Q y)) 100 (fun i s => s.2 = (i : Int)) rfl ?_ ?_
    · rintro i hi ⟨s1, s2⟩ rfl X hX
      unfold gE
      dsimp only
      rw [if_pos (decide_eq_true (show (i : Int) < 100 by omega))]
      split
      · exact ⟨by rw [e]; omega, h _⟩
      · refine HM fun r => ?_
        rw [aA ((i : Int) + 1) (by omega) (by omega)]
        exact hX _ rfl
    · rintro ⟨s1, s2⟩ rfl X
      unfold gE
      rw [if_neg (by simp)]
      exact h 0
theorem aC0 (n:Nat):All8 (List.replicate n 0):=fun y hy=>by rw [(List.mem_replicate.1 hy).2]; omega
theorem P7 {l:List Int} {x:Int} (h:All8 l) (hx : -128<=x/\x<=127):All8 (l++[x]):=fun y hy=>by
 rcases List.mem_append.1 hy with hy | hy
 ·exact h y hy
 ·rw [List.mem_singleton.1 hy]; exact hx
theorem aDl {x:Lay} {d:List Int} (h:0<szF (ofF x d).1):1<=(ofF x d).2/\(ofF x d).2<=4096:=by
 obtain ⟨_,hd,_⟩:=wD h
 unfold ofF at hd ⊢
 split
 ·rename_i e; rw [if_pos e] at hd; exact hd _ (by simp)
 ·rename_i e
  rw [if_neg e] at hd
  split
  ·rename_i e2; rw [if_pos e2] at hd; exact hd _ (by simp)
  ·rename_i e2
   have:(ofF x d).1=[]:=by unfold ofF; rw [if_neg e,if_neg e2]
   rw [this] at h
   exact absurd h (by decide)
theorem aFi {m : Mdl} {s : Int} {Q : List Prm × Int -> Prop} (hl : m.2.length <= 10000000000000) (h : ∀ ps e, (e = 0 -> ps.length = m.2.length /\ ∀ p ∈ ps, Prm8 p /\ p.1.2.2.length <= 1000000 /\ p.2.2.2.2.length <= 1000000) -> Q (ps, e)) : n8 m s Q := by
  refine ⟨JK hl ?_⟩
  have e0 : aF ((m.1.1, m.1.2.1, m.1.2.2), m.2) = aF m := rfl
  rw [e0]
  split
  · rename_i hb
    exact h _ _ (fun e => absurd e (by simpa using hb))
  · rename_i hb
    have hb : (aF m).2.2 = 0 := by simpa using hb
    obtain ⟨hm, q2, q3⟩ := tZ hb
    obtain ⟨_, ⟨k1, k2⟩, _⟩ := jX hm
    refine ⟨?_⟩
    refine Loop.rangeI (B := gF s m.2 (m.2.length : Int) (aF m).1 (fun y => Q (y, 0)) (fun _ => Q ([], 1))) m.2.length
      (fun i z => z.1 = (i : Int) /\ z.2.length = i /\ ∀ p ∈ z.2, Prm8 p /\ p.1.2.2.length <= 1000000 /\ p.2.2.2.2.length <= 1000000) ⟨rfl, rfl, fun p hp => (by cases hp)⟩ ?_ ?_
    · rintro i hi ⟨z1, z2⟩ ⟨rfl, e1, h8⟩ X hX
      unfold gF
      dsimp only at e1 h8 ⊢
      rw [if_pos (decide_eq_true (show (i : Int) < (m.2.length : Int) by omega))]
      refine ⟨by omega, by omega, ?_⟩
      simp only [Int.toNat_natCast]
      have hdi := R6 hb (i := i) (by omega)
      refine U9 hdi.sz.2.2.2.1 ?_
      have n1 : ∀ {K : Int -> Prop}, K ((i : Int) + 1) -> iE (i : Int) K := fun {K} hK => ⟨by
        rw [aA ((i : Int) + 1) (by omega) (by omega)]
        exact hK⟩
      split
      · refine ⟨by simp; omega, n1 (hX _ ⟨rfl, by simp [e1], fun p hp => ?_⟩)⟩
        rcases List.mem_append.1 hp with hp | hp
        · exact h8 p hp
        · rw [List.mem_singleton.1 hp]
          exact ⟨⟨fun y hy => (by cases hy), fun y hy => (by cases hy)⟩, by simp, by simp⟩
      · refine D7 ?_
        split
        · exact h _ _ (fun e => absurd e (by decide))
        · rename_i hs
          have hs : 0 < szF (ofF (m.2.getD i (0, 0, 0, 0, 0, 0, false)) ((aF m).1.getD i [])).1 := by simpa using hs
          have hb2 := aDl hs
          refine ⟨by omega, MT ?_⟩
          have hz := FU (ofF (m.2.getD i (0, 0, 0, 0, 0, 0, false)) ((aF m).1.getD i [])).1
          refine ⟨by omega, ⟨?_⟩⟩
          generalize (ofF _ _) = w at *
          refine ⟨?_⟩
          rw [List.length_replicate]
          refine Loop.rangeI (B := gK s (i : Int) ((szF w.1).toNat : Int) _) (szF w.1).toNat (fun j y => y.1 = (j : Int) /\ y.2.length = j /\ All8 y.2) ⟨rfl, rfl, fun y hy => (by cases hy)⟩ ?_ ?_
          · rintro j hj ⟨y1, y2⟩ ⟨rfl, f1, f2⟩ Y hY
            unfold gK
            dsimp only at f1 f2 ⊢
            rw [if_pos (decide_eq_true (show (j : Int) < ((szF w.1).toNat : Int) by omega))]
            refine aAM fun r => ⟨by simp; omega, ?_⟩
            rw [aA ((j : Int) + 1) (by omega) (by omega)]
            exact hY _ ⟨rfl, by simp [f1], P7 f2 (CP _)⟩
          · rintro ⟨y1, y2⟩ ⟨rfl, f1, f2⟩ Y
            dsimp only at f1 f2
            unfold gK
            rw [if_neg (by simp)]
            refine ⟨by simp; omega, n1 (hX _ ⟨rfl, by simp [e1], fun p hp => ?_⟩)⟩
            rcases List.mem_append.1 hp with hp | hp
            · exact h8 p hp
            · rw [List.mem_singleton.1 hp]
              exact ⟨⟨f2, aC0 _⟩, by dsimp only; omega, by dsimp only; rw [List.length_replicate]; omega⟩
    · rintro ⟨z1, z2⟩ ⟨rfl, e1, h8⟩ X
      unfold gF
      rw [if_neg (by simp)]
      exact h _ _ fun _ => ⟨e1, h8⟩
theorem P1 {kd:IntKind} {v:Int} {T:Ty} {l m:List T.den} (h:SE kd v (.slc T) l m):m.length=l.length:=h.1
theorem SE8 {v:Int} {l m:List Int} (hv : -128<=v/\v<=127) (h:SE .i8 v (.slc (.int .i8)) l m) (h8:All8 l):All8 m:=by
 intro y hy
 obtain ⟨i,hi⟩:=List.mem_iff_getElem?.1 hy
 have hlt:=(List.getElem?_eq_some_iff.1 hi).1
 have:=h.2 i _ y (List.getElem?_eq_getElem (by have:=h.1; omega)) hi
 rcases this with e | ⟨_,e⟩
 ·rw [e]; exact h8 _ (List.getElem_mem _)
 ·rw [e]; exact hv
abbrev aGt:Ty := .pair (.pair (.slc (.int .i64)) (.pair (.int .i64) (.slc (.int .i8)))) (.pair (.slc (.int .i32)) (.pair (.slc (.int .i64)) (.pair (.int .i64) (.slc (.int .i8)))))
def shp (p:Prm):Nat×Nat:=(p.1.2.2.length,p.2.2.2.2.length)
theorem SEp {v:Int} {l m:List Prm} (hv : -128<=v/\v<=127) (h:SE .i8 v (.slc aGt) l m):m.map shp=l.map shp/\((∀ p∈l,Prm8 p)->∀ p∈m,Prm8 p):=by
 have key:∀ (i:Nat) (x y:Prm),l[i]? = some x->m[i]? = some y->shp y=shp x/\(Prm8 x->Prm8 y):=by
  intro i x y hx hy
  obtain ⟨⟨_,_,h1⟩,_,_,_,h2⟩:=h.2 i x y hx hy
  have h1:SE .i8 v (.slc (.int .i8)) x.1.2.2 y.1.2.2:=h1
  have h2:SE .i8 v (.slc (.int .i8)) x.2.2.2.2 y.2.2.2.2:=h2
  exact ⟨Prod.ext h1.1 h2.1,fun k=>⟨SE8 hv h1 k.1,SE8 hv h2 k.2⟩⟩
 constructor
 ·refine List.ext_getElem? fun i => ?_
  rw [List.getElem?_map,List.getElem?_map]
  by_cases hi:i<l.length
  ·have hj:i<m.length:=by rw [P1 h]; exact hi
   rw [List.getElem?_eq_getElem hi,List.getElem?_eq_getElem hj]
   exact congrArg some (key i _ _ (List.getElem?_eq_getElem hi) (List.getElem?_eq_getElem hj)).1
  ·rw [List.getElem?_eq_none (by rw [P1 h]; omega),List.getElem?_eq_none (by omega)]
 ·intro k p hp
  obtain ⟨i,hi⟩:=List.mem_iff_getElem?.1 hp
  have hlt:=(List.getElem?_eq_some_iff.1 hi).1
  have hl:i<l.length:=by have:=P1 h; omega
  exact (key i _ p (List.getElem?_eq_getElem hl) hi).2 (k _ (List.getElem_mem _))
theorem OX {l m : List Prm} (h : m.map shp = l.map shp) (i : Nat) : m.length = l.length /\ shp (m.getD i fP) = shp (l.getD i fP) := by
  have hl : m.length = l.length := by have := congrArg List.length h; simpa using this
  refine ⟨hl, ?_⟩
  have := congrArg (fun x => x[i]?) h
  simp only [List.getElem?_map] at this
  rw [List.getD_eq_getElem?_getD, List.getD_eq_getElem?_getD]
  cases e1 : m[i]? with
  | none =>
    rw [e1] at this
    cases e2 : l[i]? with
    | none => rfl
    | some x => rw [e2] at this; cases this
  | some y =>
    rw [e1] at this
    cases e2 : l[i]? with
    | none => rw [e2] at this; cases this
    | some x => rw [e2] at this; simpa using this
structure MdOk (ps0:List Prm) (by_ x:List Int) (ps:List Prm):Prop where
 b8:All8 by_
 x8:All8 x
 p8:∀ p∈ps,Prm8 p
 sh:ps.map shp=ps0.map shp
theorem MdOk.step {ps0 ps qs:List Prm} {b x b2 x2:List Int} (h:MdOk ps0 b x ps) {i:Nat} (h1:SE .i8 (b.getD i 0) (.slc (.int .i8)) b b2) (h2:SE .i8 (b.getD i 0) (.slc (.int .i8)) x x2) (h3:SE .i8 (b.getD i 0) (.slc aGt) ps qs):MdOk ps0 b2 x2 qs :=
 have hv:=h.b8.at_ i
 ⟨SE8 hv h1 h.b8,SE8 hv h2 h.x8,(SEp hv h3).2 h.p8,(SEp hv h3).1.trans h.sh⟩
theorem aDu {ps0 : List Prm} {j n : Nat} {k : Int} {b x : List Int} {ps : List Prm} {K : Int × List Int × List Int × List Prm -> Prop} (hj : j < ps0.length) (hn : n = (ps0.getD j fP).1.2.2.length) (hn2 : n <= 1000000000) (hk : 0 <= k /\ k <= 10000000000000) (hb : b.length <= 1000000000000000) (h0 : MdOk ps0 b x ps)
    (h : ∀ k' b' x' ps', (k' = k + n) -> b'.length = b.length -> MdOk ps0 b' x' ps' -> K (k', b', x', ps')) : kX (j : Int) (n : Int) K (k, 0, b, x, ps) := by
  refine ⟨?_⟩
  refine Loop.rangeI (B := gI (j : Int) (n : Int) K) n (fun i z => z.1 = k + i /\ z.2.1 = (i : Int) /\ z.2.2.1.length = b.length /\ MdOk ps0 z.2.2.1 z.2.2.2.1 z.2.2.2.2) ⟨by simp, rfl, rfl, h0⟩ ?_ ?_
  · rintro i hi ⟨z1, z2, b1, x1, p1⟩ ⟨rfl, rfl, e1, g⟩ X hX
    unfold gI
    dsimp only at e1 g ⊢
    rw [if_pos (decide_eq_true (show (i : Int) < (n : Int) by omega))]
    have n7 : ∀ {K : Int -> Prop}, K (k + (i + 1 : Nat)) -> iK (k + (i : Int)) K := fun {K} hK => ⟨by
      rw [aA _ (by omega) (by omega)]
      exact cast (congrArg K (by omega)) hK⟩
    refine tT (b := decide (k + (i : Int) < (b1.length : Int))) (c := (b1.getD (k + (i : Int)).toNat 0 != (-128))) (fun hlt P hP => ⟨⟨by omega, by simpa using hlt⟩, hP⟩) (fun v e => ?_) rfl
    rw [aA ((i : Int) + 1) (by omega) (by omega)]
    cases v with
    | false =>
      rw [if_neg (by simp)]
      exact n7 (hX _ ⟨rfl, rfl, e1, g⟩)
    | true =>
      rw [if_pos rfl]
      have hlt : k + (i : Int) < (b1.length : Int) := by
        have := e.symm
        simp only [Bool.and_eq_true, decide_eq_true_eq] at this
        exact this.1
      obtain ⟨s1, s2⟩ := OX g.sh j
      have s3 : (p1.getD j fP).1.2.2.length = (ps0.getD j fP).1.2.2.length := congrArg Prod.fst s2
      simp only [Int.toNat_natCast]
      refine ⟨by omega, by omega, ⟨by omega, by show (i : Int) < ((p1.getD j fP).1.2.2.length : Int); omega⟩, ?_⟩
      intro m1 h1 m2 h2 m3 h3
      exact n7 (hX _ ⟨rfl, rfl, (P1 h1).trans e1, g.step h1 h2 h3⟩)
  · rintro ⟨z1, z2, b1, x1, p1⟩ ⟨rfl, rfl, e1, g⟩ X
    unfold gI
    rw [if_neg (by simp)]
    exact h _ _ _ _ rfl e1 g
theorem aDd {ps0 : List Prm} {j n : Nat} {k : Int} {b x : List Int} {ps : List Prm} {K : Int × List Int × List Int × List Prm -> Prop} (hj : j < ps0.length) (hn : n = (ps0.getD j fP).2.2.2.2.length) (hn2 : n <= 1000000000) (hk : 0 <= k /\ k <= 10000000000000) (hb : b.length <= 1000000000000000) (h0 : MdOk ps0 b x ps)
    (h : ∀ k' b' x' ps', (k' = k + n) -> b'.length = b.length -> MdOk ps0 b' x' ps' -> K (k', b', x', ps')) : lG (j : Int) (n : Int) K (k, 0, b, x, ps) := by
  refine ⟨?_⟩
  refine Loop.rangeI (B := gH (j : Int) (n : Int) K) n (fun i z => z.1 = k + i /\ z.2.1 = (i : Int) /\ z.2.2.1.length = b.length /\ MdOk ps0 z.2.2.1 z.2.2.2.1 z.2.2.2.2) ⟨by simp, rfl, rfl, h0⟩ ?_ ?_
  · rintro i hi ⟨z1, z2, b1, x1, p1⟩ ⟨rfl, rfl, e1, g⟩ X hX
    unfold gH
    dsimp only at e1 g ⊢
    rw [if_pos (decide_eq_true (show (i : Int) < (n : Int) by omega))]
    have n7 : ∀ {K : Int -> Prop}, K (k + (i + 1 : Nat)) -> iF (k + (i : Int)) K := fun {K} hK => ⟨by
      rw [aA _ (by omega) (by omega)]
      exact cast (congrArg K (by omega)) hK⟩
    refine tT (b := decide (k + (i : Int) < (b1.length : Int))) (c := (b1.getD (k + (i : Int)).toNat 0 != (-128))) (fun hlt P hP => ⟨⟨by omega, by simpa using hlt⟩, hP⟩) (fun v e => ?_) rfl
    rw [aA ((i : Int) + 1) (by omega) (by omega)]
    cases v with
    | false =>
      rw [if_neg (by simp)]
      exact n7 (hX _ ⟨rfl, rfl, e1, g⟩)
    | true =>
      rw [if_pos rfl]
      have hlt : k + (i : Int) < (b1.length : Int) := by
        have := e.symm
        simp only [Bool.and_eq_true, decide_eq_true_eq] at this
        exact this.1
      obtain ⟨s1, s2⟩ := OX g.sh j
      have s3 : (p1.getD j fP).2.2.2.2.length = (ps0.getD j fP).2.2.2.2.length := congrArg Prod.snd s2
      simp only [Int.toNat_natCast]
      refine ⟨by omega, by omega, ⟨by omega, by show (i : Int) < ((p1.getD j fP).2.2.2.2.length : Int); omega⟩, ?_⟩
      intro m1 h1 m2 h2 m3 h3
      exact n7 (hX _ ⟨rfl, rfl, (P1 h1).trans e1, g.step h1 h2 h3⟩)
  · rintro ⟨z1, z2, b1, x1, p1⟩ ⟨rfl, rfl, e1, g⟩ X
    unfold gH
    rw [if_neg (by simp)]
    exact h _ _ _ _ rfl e1 g
theorem aDf {ps:List Prm} {b x:List Int} {K:List Int×List Int×List Prm->Prop} (hl:ps.length<=1000) (hs:∀ p∈ps,p.1.2.2.length<=1000000/\p.2.2.2.2.length<=1000000) (hb:b.length<=1000000000000000) (h0:MdOk ps b x ps)
  (h:∀ b' x' ps',MdOk ps b' x' ps'->K (b',x',ps')):kS (ps.length:Int) K (0,0,b,x,ps):=by
 refine ⟨?_⟩
 refine Loop.rangeI (B:=gG (ps.length:Int) K) ps.length (fun i z=>(0<=z.1/\z.1<=i*2000000)/\z.2.1=(i:Int)/\z.2.2.1.length=b.length/\MdOk ps z.2.2.1 z.2.2.2.1 z.2.2.2.2) ⟨⟨Int.le_refl _,by simp⟩,rfl,rfl,h0⟩ ?_ ?_
 ·rintro i hi ⟨k,z2,b1,x1,p1⟩ ⟨hk,rfl,e1,g⟩ X hX
  unfold gG
  dsimp only at hk e1 g ⊢
  rw [if_pos (decide_eq_true (show (i:Int)<(ps.length:Int) by omega))]
  obtain ⟨s1,s2⟩:=OX g.sh i
  have hm:ps.getD i fP∈ps:=by rw [List.getD_eq_getElem?_getD,List.getElem?_eq_getElem hi]; exact List.getElem_mem _
  obtain ⟨m1,m2⟩:=hs _ hm
  refine ⟨by omega,?_⟩
  simp only [Int.toNat_natCast]
  refine aDu (ps0:=ps) hi (congrArg Prod.fst s2) (by have:(p1.getD i fP).1.2.2.length=_:=congrArg Prod.fst s2; show (p1.getD i fP).1.2.2.length<=_; rw [this]; show (ps.getD i fP).1.2.2.length<=_; omega) (by omega) (by omega) g ?_
  intro k' b2 x2 p2 ek eb g2
  obtain ⟨t1,t2⟩:=OX g2.sh i
  have w1:(p1.getD i fP).1.2.2.length=(ps.getD i fP).1.2.2.length:=congrArg Prod.fst s2
  have w2:(p2.getD i fP).2.2.2.2.length=(ps.getD i fP).2.2.2.2.length:=congrArg Prod.snd t2
  have ek:k'=k+((p1.getD i fP).1.2.2.length:Nat):=ek
  dsimp only
  refine ⟨by omega,aDd (ps0:=ps) hi w2 (by show (p2.getD i fP).2.2.2.2.length<=_; omega) (by omega) (by omega) g2 ?_⟩
  intro k3 b3 x3 p3 ek3 eb3 g3
  have ek3:k3=k'+((p2.getD i fP).2.2.2.2.length:Nat):=ek3
  rw [aA ((i:Int)+1) (by omega) (by omega)]
  exact hX _ ⟨⟨by dsimp only; omega,by dsimp only; omega⟩,rfl,by dsimp only; omega,g3⟩
 ·rintro ⟨k,z2,b1,x1,p1⟩ ⟨hk,rfl,e1,g⟩ X
  unfold gG
  rw [if_neg (by simp)]
  exact h _ _ _ g
theorem aED {n : Nat} {x : List Int} {K : List Int -> Prop} (hn : n <= 1000000) (hx : All8 x) (h : ∀ l, All8 l -> K l) : lJ (n : Int) x K (0, []) := by
  refine ⟨?_⟩
  refine Loop.rangeI (B := f9 (n : Int) x K) n (fun i z => z.1 = (i : Int) /\ z.2.length = i /\ All8 z.2) ⟨rfl, rfl, fun y hy => (by cases hy)⟩ ?_ ?_
  · rintro i hi ⟨z1, l⟩ ⟨rfl, e1, g⟩ X hX
    unfold f9
    dsimp only at e1 g ⊢
    rw [if_pos (decide_eq_true (show (i : Int) < (n : Int) by omega))]
    refine ⟨by decide, ?_⟩
    refine tT (b := decide ((i : Int) < (x.length : Int))) (c := (x.getD i 0 != (-128))) (fun hlt P hP => ⟨⟨by omega, by simpa using hlt⟩, by rw [Int.toNat_natCast]; exact hP⟩) (fun v e => ?_) rfl
    rw [aA ((i : Int) + 1) (by omega) (by omega)]
    cases v with
    | false =>
      rw [if_neg (by simp)]
      refine ⟨?_⟩
      exact ⟨by simp; omega, hX _ ⟨rfl, by simp [e1], P7 g (CP _)⟩⟩
    | true =>
      rw [if_pos rfl]
      have hlt : (i : Int) < (x.length : Int) := by
        have := e.symm
        simp only [Bool.and_eq_true, decide_eq_true_eq] at this
        exact this.1
      refine ⟨⟨by omega, hlt⟩, ⟨?_⟩⟩
      exact ⟨by simp; omega, hX _ ⟨rfl, by simp [e1], P7 g (hx.at_ _)⟩⟩
  · rintro ⟨z1, l⟩ ⟨rfl, e1, g⟩ X
    unfold f9
    rw [if_neg (by simp)]
    exact h _ g
abbrev aFx:=Mdl×Int×List Int×Int×List Int×Int
theorem aFb {n : aFx} {Q : List Prm × T3 × Int -> Prop} (hl : n.1.2.length <= 10000000000000) (hb : n.2.2.1.length <= 1000000000000000) (b8 : All8 n.2.2.1) (x8 : All8 n.2.2.2.2.1)
    (h : ∀ ps x e, (e = 0 -> ps.length = n.1.2.length /\ (∀ p ∈ ps, Prm8 p) /\ All8 x.2.2 /\ (aF n.1).2.2 = 0) -> Q (ps, x, e)) : nZ n Q := by
  obtain ⟨m, seed, by_, N, X, ex⟩ := n
  dsimp only at hl hb b8 x8 h
  refine ⟨JK hl ?_⟩
  have e0 : aF ((m.1.1, m.1.2.1, m.1.2.2), m.2) = aF m := rfl
  dsimp only
  rw [e0]
  split
  · rename_i he
    exact h _ _ _ (fun e => absurd e (by simpa using he))
  · rename_i he
    have he : (aF m).2.2 = 0 := by simpa using he
    obtain ⟨hm, q2, q3⟩ := tZ he
    obtain ⟨hin, ⟨k1, k2⟩, _⟩ := jX hm
    refine ⟨?_⟩
    have bad : ∀ e : Int, e ≠ 0 -> Q ([], ([], (0, [])), e) := fun e he => h _ _ _ fun e1 => absurd e1 he
    refine Loop.rangeI (B := gJ ((aF m).1.length : Int) m.1.1 m.1.2.1 m.1.2.2 m.2 (aF m).1 _ _) (aF m).1.length (fun i z => z.2 = (i : Int)) rfl ?_ ?_
    · rintro i hi ⟨z1, z2⟩ rfl Y hY
      unfold gJ
      dsimp only
      rw [if_pos (decide_eq_true (show (i : Int) < ((aF m).1.length : Int) by omega))]
      refine ⟨by omega, ?_⟩
      rw [aA ((i : Int) + 1) (by omega) (by omega)]
      have n3 : ∀ r : Int, iJ z1 ((aF m).1.getD ((i : Int)).toNat []) r fun y => Y (y, (i : Int) + 1) := fun r => ⟨MT (hY _ rfl)⟩
      split
      · rename_i h0
        have h0 : 0 < i := by simpa using h0
        refine aE6 hl (MT ?_)
        rw [aA ((i : Int) - 1) (by omega) (by omega)]
        refine tT (b := (((yY ((m.1.1, m.1.2.1, m.1.2.2), m.2) (i : Int)).1.length : Int) == 0)) (c := ((m.2.getD ((i : Int) - 1).toNat bA).1 == 1 || (m.2.getD ((i : Int) - 1).toNat bA).1 == 2)) (fun _ P hP => ⟨by omega, ?_⟩) (fun v e => ?_) rfl
        · refine kI (b := (m.2.getD ((i : Int) - 1).toNat bA).1 == 1) (c := (m.2.getD ((i : Int) - 1).toNat bA).1 == 2) (fun _ P' hP' => ⟨by omega, hP'⟩) (fun v e => ?_) rfl
          rw [e]; exact hP
        · split
          · exact bad 1 (by decide)
          · exact n3 _
      · exact n3 0
    · rintro ⟨z1, z2⟩ rfl Y
      unfold gJ
      rw [if_neg (by simp)]
      dsimp only
      split
      · exact bad 10 (by decide)
      · refine aFi hl fun ps e hps => ?_
        dsimp only
        split
        · rename_i he
          exact bad e (by simpa using he)
        · rename_i he
          have he : e = 0 := by simpa using he
          obtain ⟨p1, p2⟩ := hps he
          have p1 : ps.length = m.2.length := p1
          refine aDf (by omega) (fun p hp => (p2 p hp).2) hb ⟨b8, x8, fun p hp => (p2 p hp).1, rfl⟩ ?_
          intro b' x' ps' g
          have gl := (OX g.sh 0).1
          refine ⟨by decide, by decide, MT ?_⟩
          have hz := FU [IntKind.i64.wrap (1 + (IntKind.i64.wrap ((IntKind.u64.wrap N).tmod 3))), m.1.1, m.1.2.1, m.1.2.2]
          have hz0 := AE [IntKind.i64.wrap (1 + (IntKind.i64.wrap ((IntKind.u64.wrap N).tmod 3))), m.1.1, m.1.2.1, m.1.2.2]
          obtain ⟨k, hk⟩ : ∃ k : Nat, szF [IntKind.i64.wrap (1 + (IntKind.i64.wrap ((IntKind.u64.wrap N).tmod 3))), m.1.1, m.1.2.1, m.1.2.2] = k := ⟨_, (Int.toNat_of_nonneg hz0).symm⟩
          rw [hk] at hz ⊢
          exact aED (by omega) g.x8 fun l hl8 => h _ _ _ fun _ => ⟨by rw [gl]; exact p1, g.p8, hl8, by assumption⟩
end Go.Proofs.YtcfpfefadlnmcaaGreat

namespace Go.Proofs.YtcfpfefadlnmcaaGreat
open Go.Mach Go.RowKit
set_option maxRecDepth 100000
set_option linter.unusedVariables false
set_option linter.unusedSimpArgs false
theorem UR {s t:Int}:qE ([1,1],0,[16]) 8 s t=(([1,1],0,[16]),0):=by
 have h1:((!(o6 ([1,1],0,[16]))||(decide ((8:Int)<2)))||(decide ((8:Int)<8)))=false:=by decide +kernel
 have h2:rG ([1,1],0,[16]) 8=0:=by decide +kernel
 unfold qE
 rw [h1,h2,if_neg (by simp),if_neg (by decide +kernel)]
 unfold KP
 show (([1,1],_,[KJ 8 s t 0 [16] 0]),0)=_
 unfold KJ
 rw [OR]
 decide +kernel
end Go.Proofs.YtcfpfefadlnmcaaGreat

namespace Go.Proofs.YtcfpfefadlnmcaaGreat
open Go.Mach
set_option maxRecDepth 100000
set_option linter.unusedVariables false
set_option linter.unusedSimpArgs false
theorem aH5:aGJ 8=127:=by decide +kernel
theorem cl8 (a:Int) : -127<=clF a 8/\clF a 8<=127:=by
 unfold clF
 rw [aH5,show IntKind.i64.wrap (0-127) = -127 by decide +kernel]
 exact P0 (DC a) (-127) 127 (by omega)
theorem aAp (x:Int) (h1 : -128<=x) (h2:x<=127):IntKind.i8.wrap x=x:=by
 simp only [IntKind.wrap,IntKind.bits,IntKind.signed]
 simp
 split <;> omega
theorem aB6 {a:T3} {s t:Int} (h:(qE a 8 s t).2=0):cP (qE a 8 s t).1=true:=by
 unfold qE at h ⊢
 split at h
 ·exact absurd (show (1:Int)=0 from h) (by decide)
 rename_i h1
 rw [if_neg h1]
 split at h
 ·exact absurd (show (3:Int)=0 from h) (by decide)
 rename_i h2
 rw [if_neg h2]
 have h1:=Bool.eq_false_iff.2 h1
 simp only [Bool.or_eq_false_iff,Bool.not_eq_false'] at h1
 have h2:QP (IntKind.i64.wrap (a.2.1+rG a 8)) 64=true:=by simpa using h2
 obtain ⟨m1,m2,_⟩:=C2 h1.1.1
 refine hZ.2 ⟨m1,?_,(XT (by omega) (by omega)).1 h2,?_⟩
 ·show ((KP 8 s t (rG a 8) a.2.2).length:Int)=_
  unfold KP
  rw [List.length_map,List.length_range]
  exact m2
 ·intro hm
  have hm:(-128:Int)∈KP 8 s t (rG a 8) a.2.2:=hm
  unfold KP at hm
  obtain ⟨i,_,hi⟩:=List.mem_map.1 hm
  unfold KJ at hi
  have:=cl8 (chF (IntKind.i64.wrap (a.2.2.getD i 0)) (rG a 8) (atF s t (IntKind.u64.wrap (i:Int))))
  rw [aAp _ (by omega) (by omega)] at hi
  omega
theorem aCU {x:T3} (h:(GR x).2=0):cP (GR x).1=true:=by
 unfold GR at h ⊢
 split at h
 ·rename_i hm
  rw [if_pos hm]
  obtain ⟨h1,h2,h3,h4⟩:=hZ.1 hm
  refine hZ.2 ⟨h1,by show ((x.2.2.map (aP 0)).length:Int)=_; rw [List.length_map]; exact h2,h3,?_⟩
  intro hm
  obtain ⟨y,_,hy⟩:=List.mem_map.1 (show (-128:Int)∈x.2.2.map (aP 0) from hm)
  unfold aP at hy
  split at hy <;> omega
 ·exact absurd (show (1:Int)=0 from h) (by decide)
theorem aCN {x : T3} (h : (HN x).2 = 0) : cP (HN x).1 = true := by
  unfold HN GB at h ⊢
  split at h
  · rename_i hm
    rw [if_pos hm]
    split at h
    · rename_i h1
      rw [if_pos h1]
      split at h
      · rename_i h2
        rw [if_pos h2]
        obtain ⟨_, _, h3, h4⟩ := hZ.1 hm
        exact hZ.2 ⟨h1.2, h2.symm, h3, h4⟩
      · exact absurd (show (2 : Int) = 0 from h) (by decide)
    · exact absurd (show (1 : Int) = 0 from h) (by decide)
  · exact absurd (show (1 : Int) = 0 from h) (by decide)
theorem aAX {n:Nat} {k s:Int} {P:Nat} (h:aS n k s 0=P) (h1:1<=P):P<=n:=by
 obtain ⟨a,b,c,d,e,f⟩:=mX (n:=(n:Int)) (k:=k) (s:=s) (p:=0) (by omega)
 have h3:((n:Int)+2*0-k) / s<=n+2*0-k:=Int.ediv_le_self _ (by omega)
 omega
theorem aDn {x:T3} {k s:Int} (h:(XJ x k s).2.2=0):cP (XJ x k s).1=true:=by
 unfold XJ at h ⊢
 split at h
 ·rename_i he
  exact absurd h (by simpa using he)
 rename_i he
 rw [if_neg he]
 have he:plE x k s=0:=by simpa using he
 obtain ⟨N,H,V,P,Q,n,m,ex,eN,g,hm,hb⟩:=aDA he
 obtain ⟨h1,h2,h3,h4⟩:=hZ.1 hm
 have hP:=aAX g.hP g.p1
 have hQ:=aAX g.hQ g.q1
 have g2:=g.p1
 have g3:=g.q1
 have hNPQ:N*(P*Q)<=N*(H*V):=Nat.mul_le_mul (Nat.le_refl _) (Nat.mul_le_mul hP hQ)
 have bx:=g.bx
 have hle:=g.le
 have hsz:szF [(n:Int),m,P,Q]=((n*m*P*Q:Nat):Int):=aEA (by omega) (by omega) (by omega) (by omega) (by rw [Nat.mul_assoc,<- eN]; omega)
 have hpos:1<=n*m*P*Q:=Nat.mul_pos (Nat.mul_pos (Nat.mul_pos (by omega) (by omega)) (by omega)) (by omega)
 have en:((n:Int)*(m:Int)).toNat=N:=by rw [eN,<- Int.natCast_mul]; exact Int.toNat_natCast _
 have eD:plD x k s=[(n:Int),m,P,Q]:=by unfold plD; rw [ex]; simp only [List.getD_cons_succ,List.getD_cons_zero]; rw [g.hP,g.hQ]
 have eNn:plN x k s=N*(P*Q):=by unfold plN; rw [ex]; simp only [List.getD_cons_succ,List.getD_cons_zero]; rw [g.hP,g.hQ,en]; simp
 refine hZ.2 ⟨by show 0<szF (plD x k s); rw [eD,hsz]; omega,?_,h3,?_⟩
 ·show (((OE x k s).map _).length:Int)=szF (plD x k s)
  rw [List.length_map,eD,hsz]
  unfold OE tab
  rw [List.length_map,List.length_range,eNn,eN,Nat.mul_assoc (n*m) P Q]
 ·intro hmm
  obtain ⟨a,ha,hy⟩:=List.mem_map.1 (show (-128:Int)∈(OE x k s).map fun a=>x.2.2.getD a.toNat 0 from hmm)
  unfold OE at ha
  obtain ⟨t,ht,rfl⟩:=aEP ha
  rw [eNn] at ht
  have hPQ:0<P*Q:=Nat.mul_pos (by omega) (by omega)
  obtain ⟨c1,c2,c3⟩:=yC ht
  have c4:=g.cell c1 c2
  have c5:=g.addr c1 c2
  have eA:plA x k s t=lQ H V k s P Q (t / (P*Q)*(P*Q)+t%(P*Q)):=by
   rw [<- c3]
   unfold plA
   rw [ex]
   simp only [List.getD_cons_succ,List.getD_cons_zero]
   rw [g.hP,g.hQ]
   simp
  have hne:plA x k s t≠[]:=by
   rw [eA,c4.2.2.2.2]
   simpa using c4.2.2.2.1
  have:=c5 _ (eA ▸ SD (X:=x.2.2) hne)
  have hlt:(HY x.2.2 (plA x k s t)).toNat<x.2.2.length:=by rw [<- eA] at this; exact (Int.toNat_lt this.1).2 this.2
  apply h4
  rw [<- hy]
  exact G0 hlt
theorem aBK {x:Lay} {p:Prm} {l:List T3} {s t:Int} (h:(iV x p l s t).2.2=0):cP (iV x p l s t).1=true:=by
 unfold iV at h ⊢
 split at h
 ·rename_i he
  exact absurd h (by simpa using he)
 rename_i he
 rw [if_neg he]
 split at h
 ·rename_i h1
  rw [if_pos h1]; exact aB6 h
 rename_i h1
 rw [if_neg h1]
 split at h
 ·rename_i h1
  rw [if_pos h1]; exact aDn h
 rename_i h1
 rw [if_neg h1]
 split at h
 ·rename_i h1
  rw [if_pos h1]; exact aCU h
 ·rename_i h1
  rw [if_neg h1]; exact aCN h
def Y6 (l:List T3):Prop:=∀ t∈l,cP t=true
theorem XI {ps : List Prm} {s st : Int} : ∀ (r : List Lay) (i : Nat) (a : Act), (q5 ps s st r i a).2.2 = 0 -> Y6 a.1 ->
    (∃ t, (q5 ps s st r i a).1.1 = a.1 ++ t /\ t.length = r.length) /\ Y6 (q5 ps s st r i a).1.1 /\ (q5 ps s st r i a).2.1 = 0
  | [], i, a, h, hm => ⟨⟨[], by simp [q5], rfl⟩, hm, rfl⟩
  | x :: r, i, a, h, hm => by
    unfold q5 at h ⊢
    split at h
    · rename_i he
      exact absurd h (by simpa using he)
    · rename_i he
      rw [if_neg he]
      have he : (iV x (ps.getD i fP) a.1 s (S6 st ((i : Int) + 1) 0)).2.2 = 0 := by simpa using he
      obtain ⟨⟨t, h1, h2⟩, h3⟩ := XI r (i + 1) _ h (by
        intro t ht
        rcases List.mem_append.1 ht with ht | ht
        · exact hm t ht
        · rw [List.mem_singleton.1 ht]; exact aBK he)
      exact ⟨⟨_ :: t, by rw [h1, List.append_assoc]; rfl, by simp [h2]⟩, h3⟩
theorem aEB {m:Mdl} {ps:List Prm} {x:T3} {s st:Int} (h:(EI m ps x s st).2.2=0):(vJ m ps=true/\cP x=true/\x.1.length=4/\x.1.drop 1=inL m/\inP st 0 1000000=true)/\EI m ps x s st=q5 ps s st m.2 0 ([x],[[]]):=by
 unfold EI at h ⊢
 split at h
 ·exact absurd (show (1:Int)=0 from h) (by decide)
 rename_i h1
 split at h
 ·exact absurd (show (2:Int)=0 from h) (by decide)
 rename_i h2
 rw [if_neg h1,if_neg h2]
 have h1:=Bool.eq_false_iff.2 h1
 have h2:=Bool.eq_false_iff.2 h2
 simp only [Bool.or_eq_false_iff,Bool.not_eq_false',decide_eq_true_eq,R5] at h1 h2
 exact ⟨⟨h1.1.2,h1.2,by omega,h2.2,h1.1.1⟩,rfl⟩
theorem aBZ {m:Mdl} {ps:List Prm} {x:T3} {s st:Int} (h:(EI m ps x s st).2.2=0):(EI m ps x s st).1.1.length=m.2.length+1/\Y6 (EI m ps x s st).1.1:=by
 obtain ⟨⟨_,h1,_⟩,e⟩:=aEB h
 rw [e] at h ⊢
 obtain ⟨⟨t,h2,h3⟩,h4,_⟩:=XI m.2 0 ([x],[[]]) h (fun t ht=>by rw [List.mem_singleton.1 ht]; exact h1)
 exact ⟨by rw [h2]; simp [h3],h4⟩
end Go.Proofs.YtcfpfefadlnmcaaGreat

namespace Go.Proofs.YtcfpfefadlnmcaaGreat
open Go.Mach Go.RowKit
set_option maxRecDepth 100000
set_option linter.unusedVariables false
set_option linter.unusedSimpArgs false
abbrev mA:Mdl:=((1,(1,2)),[(6,(0,(0,(0,(0,(0,false)))))),(1,(1,(0,(0,(0,(0,false))))))])
abbrev pA1:Prm:=(([1,2],(0,[3,4])),([0,0],([1],(0,[5]))))
abbrev psA:List Prm:=[((([]:List Int),(0,([]:List Int))),(([]:List Int),(([]:List Int),(0,([]:List Int))))),pA1]
abbrev xA:T3:=([1,1,1,2],(0,[1,2]))
abbrev tA1:T3:=([1,2],0,[1,2])
abbrev tA2:T3:=([1,1],0,[16])
abbrev gA:T3:=([1,1],(0,[6]))
abbrev bA1:T3:=([1,2],0,[18,24])
abbrev bA0:T3:=([1,1,1,2],0,[18,24])
abbrev rA:G3:=(true,([1,2],0,[6,12]),([1],0,[6]))
theorem aEa (t:Int):iV (6,(0,(0,(0,(0,(0,false)))))) fP [xA] 1 t=(tA1,[],0):=by
 have h:ID (6,(0,(0,(0,(0,(0,false)))))) fP [xA]=(Z3,false,0):=by decide +kernel
 unfold iV
 rw [h,if_neg (by decide),if_neg (by decide),if_neg (by decide),if_neg (by decide)]
 decide +kernel
theorem aEM (t:Int):iV (1,(1,(0,(0,(0,(0,false)))))) pA1 [xA,tA1] 1 t=(tA2,[],0):=by
 have h:ID (1,(1,(0,(0,(0,(0,false)))))) pA1 [xA,tA1]=(([1,1],0,[16]),true,0):=by decide +kernel
 unfold iV
 rw [h,if_neg (by decide),if_pos rfl]
 dsimp only
 rw [UR]
theorem aHX:EI mA psA xA 1 0=(([xA,tA1,tA2],[[],[],[]]),0,0):=by
 have h1:((!inP 0 0 1000000 || !vJ mA psA) || !cP xA)=false:=by decide +kernel
 have h2:(((xA.1.length:Int) != 4) || !decide (xA.1.drop 1=inL mA))=false:=by decide +kernel
 unfold EI
 rw [h1,h2]
 simp only [Bool.false_eq_true,if_false]
 unfold q5
 show (if ((iV (6,(0,(0,(0,(0,(0,false)))))) fP [xA] 1 _).2.2 != 0)=true then _ else q5 psA 1 0 [(1,(1,(0,(0,(0,(0,false))))))] 1 ([xA]++[(iV (6,(0,(0,(0,(0,(0,false)))))) fP [xA] 1 _).1],[[]]++[(iV (6,(0,(0,(0,(0,(0,false)))))) fP [xA] 1 _).2.1]))=_
 rw [aEa,if_neg (by decide)]
 unfold q5
 show (if ((iV (1,(1,(0,(0,(0,(0,false)))))) pA1 [xA,tA1] 1 _).2.2 != 0)=true then _ else q5 psA 1 0 [] 2 ([xA,tA1]++[(iV (1,(1,(0,(0,(0,(0,false)))))) pA1 [xA,tA1] 1 _).1],[[],[]]++[(iV (1,(1,(0,(0,(0,(0,false)))))) pA1 [xA,tA1] 1 _).2.1]))=_
 rw [aEM,if_neg (by decide)]
 rfl
theorem aFO {s t:Int}:qE bA1 8 s t=(bA1,0):=by
 have h1:((!(o6 bA1)||(decide ((8:Int)<2)))||(decide ((8:Int)<8)))=false:=by decide +kernel
 have h2:rG bA1 8=0:=by decide +kernel
 unfold qE
 rw [h1,h2,if_neg (by simp),if_neg (by decide +kernel)]
 unfold KP
 show (([1,2],_,[KJ 8 s t 0 [18,24] 0,KJ 8 s t 0 [18,24] 1]),0)=_
 unfold KJ
 rw [OR,OR]
 decide +kernel
theorem aGl:iC mA psA [xA,tA1,tA2] [[],[],[]] 0 1 2 [[],[],[gA]]=((rA,0),[[],[bA1],[gA]]):=by
 have h1:grV (mA.2.getD (2-1) bA) gA ([xA,tA1,tA2].getD (2-1) Z3)=(rA,0):=by decide +kernel
 have h2:onV (mA.2.getD (2-1) bA) (psA.getD (2-1) fP) gA ([xA,tA1,tA2].getD (2-1) Z3) (([[],[],[]]:List (List Int)).getD 2 []) 0 1 ((2:Nat):Int)=(bA1,0):=by
  have h3:Z0 gA pA1.1=(bA1,0):=by decide +kernel
  unfold onV
  rw [if_neg (by decide),if_neg (by decide),if_neg (by decide),if_pos (by decide)]
  show n9 0 1 (Z0 gA pA1.1).1 (Z0 gA pA1.1).2 _ 2=_
  rw [h3]
  unfold n9
  rw [if_neg (by decide)]
  exact aFO
 show KA mA psA [xA,tA1,tA2] [[],[],[]] 0 1 2 [[],[],[gA]] gA=_
 unfold KA
 rw [h1,h2,if_pos rfl]
 rfl
theorem aGe:iC mA psA [xA,tA1,tA2] [[],[],[]] 0 1 1 [[],[bA1],[gA]]=((dV,0),[[bA0],[bA1],[gA]]):=by
 have h1:grV (mA.2.getD (1-1) bA) bA1 ([xA,tA1,tA2].getD (1-1) Z3)=(dV,0):=by decide +kernel
 have h2:onV (mA.2.getD (1-1) bA) (psA.getD (1-1) fP) bA1 ([xA,tA1,tA2].getD (1-1) Z3) (([[],[],[]]:List (List Int)).getD 1 []) 0 1 ((1:Nat):Int)=(bA0,0):=by
  unfold onV
  rw [if_neg (by decide),if_pos (by decide)]
  decide +kernel
 show KA mA psA [xA,tA1,tA2] [[],[],[]] 0 1 1 [[],[bA1],[gA]] bA1=_
 unfold KA
 rw [h1,h2,if_pos rfl]
 rfl
theorem aGq:pV mA psA [xA,tA1,tA2] [[],[],[]] gA 1 0=([dV,rA],0,0):=by
 have h1:C6 mA psA [xA,tA1,tA2] [[],[],[]] 0 gA=0:=by decide +kernel
 unfold pV
 rw [if_pos h1]
 show oH mA psA [xA,tA1,tA2] [[],[],[]] 0 1 2 [dV,dV] [[],[],[gA]]=_
 unfold oH
 rw [aGl,if_pos rfl]
 show oH mA psA [xA,tA1,tA2] [[],[],[]] 0 1 1 [dV,rA] [[],[bA1],[gA]]=_
 unfold oH
 rw [aGe,if_pos rfl]
 rfl
theorem HF {l:List Int} (h:(l.all fun y=>decide (-128<=y)&&decide (y<=127))=true):All8 l:=fun y hy=>by
 have:=List.all_eq_true.1 h y hy
 simpa using this
theorem yV {Q:Bool->Prop} (h:Q true):dI Q:=by
 have hp:∀ p∈psA,Prm8 p:=by
  intro p hp
  simp only [List.mem_cons,List.not_mem_nil,or_false] at hp
  rcases hp with rfl | rfl <;> exact ⟨HF (by decide),HF (by decide)⟩
 refine ⟨⟨?_⟩⟩
 refine aEu (m:=mA) (ps:=psA) (x:=xA) (by decide) hp (HF (by decide)) ?_
 rw [aHX]
 refine ⟨?_⟩
 refine ZI (m:=mA) (ps:=psA) (T:=[xA,tA1,tA2]) (F:=[[],[],[]]) (g:=gA) (by decide) (by decide) hp ?_ (HF (by decide)) ?_
 ·intro t ht
  simp only [List.mem_cons,List.not_mem_nil,or_false] at ht
  rcases ht with rfl | rfl | rfl <;> exact HF (by decide)
 rw [aGq]
 unfold jn
 dsimp only
 rw [if_pos (by decide)]
 refine ⟨by decide,?_⟩
 rw [if_pos (by decide)]
 refine ⟨by decide,?_⟩
 rw [if_pos (by decide)]
 refine ⟨by decide,by decide,?_⟩
 rw [if_pos (by decide)]
 refine ⟨by decide,?_⟩
 rw [if_pos (by decide)]
 refine ⟨by decide,by decide,?_⟩
 exact h
def KM (l:List Int) (n:Nat):List Int:=(List.range n).map fun i=>if i<l.length/\l.getD i 0 ≠ -128 then l.getD i 0 else 0
def aA1 (t:T3) (l:List Int) (e:Int):T3:=(t.1,e.tmod 20,KM l t.2.2.length)
theorem aF1 {t : T3} {l : List Int} {e : Int} {Q : T3 -> Prop} (h1 : t.1.length <= 1000000) (h2 : t.2.2.length <= 1000000) (hl : l.length <= 1000000000000000) (h : Q (aA1 t l e)) : oA t l e Q := by
  refine ⟨⟨by simp; omega, ⟨by decide, ⟨by omega, ⟨?_⟩⟩⟩⟩⟩
  simp only [Int.toNat_natCast, List.length_replicate]
  refine Loop.range (B := gM l (t.2.2.length : Int) _) t.2.2.length (fun i => ((i : Int), KM l i ++ List.replicate (t.2.2.length - i) 0)) (fun _ => True) trivial ?_ ?_
  · intro i hi _ X hX
    have hX := hX trivial
    unfold gM
    dsimp only at hX ⊢
    rw [if_pos (decide_eq_true (show (i : Int) < (t.2.2.length : Int) by omega))]
    rw [Int.toNat_natCast]
    have el : (KM l i).length = i := by simp [KM]
    have e1 : KM l (i + 1) = KM l i ++ [if i < l.length /\ l.getD i 0 ≠ -128 then l.getD i 0 else 0] := by
      unfold KM
      rw [List.range_succ, List.map_append]; rfl
    have e2 : List.replicate (t.2.2.length - i) (0 : Int) = 0 :: List.replicate (t.2.2.length - (i + 1)) 0 := by
      rw [show t.2.2.length - i = (t.2.2.length - (i + 1)) + 1 by omega, List.replicate_succ]
    rw [e1] at hX
    have no : ¬ (i < l.length /\ l.getD i 0 ≠ -128) -> X (IntKind.i64.wrap ((i : Int) + 1), KM l i ++ List.replicate (t.2.2.length - i) 0) := fun hn => by
      rw [if_neg hn, List.append_assoc] at hX
      rw [aA _ (by omega) (by omega), e2]
      exact hX
    refine tT (c := (l.getD i 0 != -128)) (fun hb P hP => ⟨by have := of_decide_eq_true hb; omega, hP⟩) (fun v ev => ?_) rfl
    cases v with
    | true =>
      have ev := ev.symm
      simp only [Bool.and_eq_true, decide_eq_true_eq, bne_iff_ne, ne_eq] at ev
      have hi2 : i < l.length := by omega
      rw [if_pos rfl]
      rw [if_pos ⟨hi2, ev.2⟩, List.append_assoc] at hX
      refine ⟨by omega, ⟨by rw [List.length_append, el, List.length_replicate]; omega, ⟨?_⟩⟩⟩
      rw [aA _ (by omega) (by omega), e2, List.set_append_right _ _ (by omega), el, Nat.sub_self]
      exact hX
    | false =>
      rw [if_neg (by simp)]
      refine ⟨no ?_⟩
      rintro ⟨k1, k2⟩
      rw [decide_eq_true (show (i : Int) < (l.length : Int) by omega)] at ev
      simp only [Bool.true_and] at ev
      have : l.getD i 0 = -128 := by simpa using ev.symm
      exact k2 this
  · intro _ X
    unfold gM
    rw [if_neg (by simp)]
    dsimp only
    rw [Nat.sub_self, List.replicate_zero, List.append_nil, List.nil_append]
    exact h
theorem aGb {t:T3} {l:List Int} {e:Int} (h:All8 l):All8 (aA1 t l e).2.2:=by
 intro y hy
 obtain ⟨i,_,rfl⟩:=List.mem_map.1 hy
 split
 ·exact h.at_ i
 ·omega
end Go.Proofs.YtcfpfefadlnmcaaGreat

namespace Go.Proofs.YtcfpfefadlnmcaaGreat
open Go.Mach Go.RowKit
set_option maxRecDepth 100000
set_option linter.unusedVariables false
set_option linter.unusedSimpArgs false
def E9 (a:T3):Prop:=a.1.length<=1000000/\a.2.2.length<=1000000
theorem nA:E9 Z3:=⟨by simp,by simp⟩
theorem OO (R C n e:Int) (f:Nat->Nat->Int):E9 (wP R C n e f).1:=by
 unfold wP
 split
 ·exact nA
 split
 ·exact nA
 ·rename_i h
  have h:0<szF [R,C]:=by simpa using h
  obtain ⟨k1,k2,k3,k4,k5,_⟩:=aBS R C h
  obtain ⟨R,rfl⟩:=Int.eq_ofNat_of_zero_le (show 0<=R by omega)
  obtain ⟨C,rfl⟩:=Int.eq_ofNat_of_zero_le (show 0<=C by omega)
  refine ⟨by simp,?_⟩
  show (mV _ _ _).length<=_
  rw [yB]
  simp only [Int.toNat_natCast]
  rw [<- Int.natCast_mul] at k5
  omega
theorem aBw (g x:T3):E9 (YP g x).1:=by
 unfold YP
 split
 ·exact nA
 split
 ·exact nA
 ·exact OO _ _ _ _ _
theorem aBD (g:T3):E9 (ZC g).1:=by
 unfold ZC
 have h:E9 (Y2 g).1:=OO _ _ _ _ _
 split
 ·exact nA
 split
 ·exact ⟨by simp,h.2⟩
 ·exact h
theorem UI (g x:T3) (k s p:Int):E9 (zT g x k s p).1:=by
 unfold zT
 split
 ·exact nA
 ·rename_i h
  have h:wtE g x k s p=0:=by simpa using h
  unfold wtE at h
  split at h
  ·rename_i h1; exact absurd h (by simpa using h1)
  split at h
  ·cases h
  obtain ⟨_,_,h3,_⟩:=yO h
  unfold PS at h3
  obtain ⟨O,C,K,K',e1,e2,e3,e4,_,_,_,_,hb,_⟩:=aBG h3
  refine ⟨by simp [PS],?_⟩
  show (w4 _ _ _ _ _).length<=_
  rw [IZ,e1,e2,e3]
  have:K=K':=by omega
  subst this
  simp only [Int.toNat_natCast]
  omega
theorem aAL (g:T3):E9 (NA g).1:=by
 unfold NA
 split
 ·exact nA
 ·rename_i h
  have h:bsE g=0:=by simpa using h
  unfold bsE at h
  split at h
  ·rename_i h1; exact absurd h (by simpa using h1)
  obtain ⟨_,_,h3,_⟩:=yO h
  have:=aER h3
  refine ⟨by simp,?_⟩
  show (U1 g).length<=_
  unfold U1
  rw [aA5]
  omega
def uZ (G:G3):Prop:=E9 G.2.1/\E9 G.2.2
theorem aAI (x:Lay) (g t:T3):uZ (yT x g t).1:=by
 unfold yT
 have z:uZ dV:=⟨nA,nA⟩
 split
 ·split
  ·split
   ·exact ⟨aBw _ _,aBD _⟩
   ·exact z
  ·exact z
 ·split
  ·split
   ·exact ⟨UI _ _ _ _ _,aAL _⟩
   ·exact z
  ·exact z
theorem WX {m:Mdl} {ps:List Prm} {T:List T3} {F:List (List Int)} {st s:Int} {n:Nat} {back:List (List T3)}:uZ (iC m ps T F st s n back).1.1:=by
 have z:uZ dV:=⟨nA,nA⟩
 unfold iC
 split
 ·unfold KA
  split
  ·unfold grV
   split
   ·exact aAI _ _ _
   ·exact z
  ·exact z
 ·exact z
theorem GF {m : Mdl} {ps : List Prm} {T : List T3} {F : List (List Int)} {st s : Int} : ∀ (n : Nat) (out : List G3) (back : List (List T3)), (∀ G ∈ out, uZ G) -> ∀ G ∈ (oH m ps T F st s n out back).1, uZ G
  | 0, out, back, h => h
  | n + 1, out, back, h => by
    unfold oH
    split
    · refine GF n _ _ fun G hG => ?_
      rcases List.mem_or_eq_of_mem_set hG with h1 | h1
      · exact h G h1
      · subst h1; exact WX
    · intro G hG; cases hG
theorem O7 {m : Mdl} {ps : List Prm} {T : List T3} {F : List (List Int)} {st s : Int} : ∀ (n : Nat) (out : List G3) (back : List (List T3)), (oH m ps T F st s n out back).2.2 = 0 -> (oH m ps T F st s n out back).1.length = out.length
  | 0, out, back, h => rfl
  | n + 1, out, back, h => by
    unfold oH at h ⊢
    split
    · rename_i he
      rw [if_pos he] at h
      rw [O7 n _ _ h, List.length_set]
    · rename_i he
      rw [if_neg he] at h
      exact absurd h he
theorem RF {n:Nat}:∀ G∈List.replicate n dV,uZ G:=fun G hG=>by rw [List.eq_of_mem_replicate hG]; exact ⟨nA,nA⟩
def GQ (x:Lay):Lay:=(x.1,x.2.1,x.2.2.1,x.2.2.2.1,x.2.2.2.2.1,x.2.2.2.2.2.1,!x.2.2.2.2.2.2)
def nP (m:Mdl):Mdl:=(m.1,m.2.set (m.2.length-1) (GQ (m.2.getD (m.2.length-1) bA)))
theorem aDv {m:Mdl} {i:Nat} (h:i<m.2.length-1):(nP m).2.getD i bA=m.2.getD i bA:=by
 unfold nP
 rw [List.getD_eq_getElem?_getD,List.getElem?_set_ne (by omega),List.getD_eq_getElem?_getD]
theorem aC8 {m:Mdl} (h:1<=m.2.length):(nP m).2.getD (m.2.length-1) bA=GQ (m.2.getD (m.2.length-1) bA):=by
 unfold nP
 rw [List.getD_eq_getElem?_getD,List.getElem?_set_self (by omega)]; rfl
theorem aDb (x:Lay) (p:Prm) (g t:T3) (fr:List Int) (st s n:Int):onV (GQ x) p g t fr st s n=onV x p g t fr st s n:=rfl
theorem Y3 {m:Mdl} {ps:List Prm} {T:List T3} {F:List (List Int)} {st s:Int} {n:Nat} {back:List (List T3)} (h:n+1<m.2.length):iC (nP m) ps T F st s (n+1) back=iC m ps T F st s (n+1) back:=by
 unfold iC KA
 rw [Nat.add_sub_cancel,aDv (by omega)]
theorem RV {m : Mdl} {ps : List Prm} {T : List T3} {F : List (List Int)} {st s : Int} : ∀ (n : Nat) (o1 o2 : List G3) (back : List (List T3)), n < m.2.length -> o1.length = m.2.length -> o2.length = m.2.length -> (∀ j, j < m.2.length - 1 -> o1.getD j dV = o2.getD j dV) ->
    (oH m ps T F st s n o1 back).2.2 = 0 -> (oH (nP m) ps T F st s n o2 back).2.2 = 0 ->
    (∀ j, j < m.2.length - 1 -> (oH m ps T F st s n o1 back).1.getD j dV = (oH (nP m) ps T F st s n o2 back).1.getD j dV) /\
      (oH m ps T F st s n o1 back).1.getD (m.2.length - 1) dV = o1.getD (m.2.length - 1) dV /\ (oH (nP m) ps T F st s n o2 back).1.getD (m.2.length - 1) dV = o2.getD (m.2.length - 1) dV
  | 0, o1, o2, back, _, _, _, h, _, _ => ⟨h, rfl, rfl⟩
  | n + 1, o1, o2, back, hn, h1, h2, h, e1, e2 => by
    unfold oH at e1 e2 ⊢
    rw [Y3 hn] at e2 ⊢
    by_cases he : (iC m ps T F st s (n + 1) back).1.2 = 0
    rotate_left
    · rw [if_neg he] at e1; exact absurd e1 he
    rw [if_pos he] at e1 e2 ⊢
    rw [if_pos he]
    obtain ⟨a, b, c⟩ := RV n _ _ _ (by omega) (by rw [List.length_set]; exact h1) (by rw [List.length_set]; exact h2) (fun j hj => by
      by_cases hjn : n = j
      · subst hjn
        rw [List.getD_eq_getElem?_getD, List.getElem?_set_self (by omega), List.getD_eq_getElem?_getD, List.getElem?_set_self (by omega)]
      · rw [List.getD_eq_getElem?_getD, List.getElem?_set_ne hjn, List.getD_eq_getElem?_getD, List.getElem?_set_ne hjn, <- List.getD_eq_getElem?_getD, <- List.getD_eq_getElem?_getD]
        exact h j hj) e1 e2
    refine ⟨a, ?_, ?_⟩
    · rw [b, List.getD_eq_getElem?_getD, List.getElem?_set_ne (by omega), <- List.getD_eq_getElem?_getD]
    · rw [c, List.getD_eq_getElem?_getD, List.getElem?_set_ne (by omega), <- List.getD_eq_getElem?_getD]
theorem aCa {x:Lay} {g t:T3} (h:(yT x g t).2=0):(yT x g t).1.1=true:=by
 unfold yT at h ⊢
 split
 ·rename_i h1
  rw [if_pos h1] at h
  split
  ·rename_i h2
   rw [if_pos h2] at h
   split
   ·rfl
   ·rename_i h3; rw [if_neg h3] at h; exact absurd h h3
  ·rename_i h2; rw [if_neg h2] at h; exact absurd h h2
 ·rename_i h1
  rw [if_neg h1] at h
  split
  ·rename_i h2
   rw [if_pos h2] at h
   split
   ·rfl
   ·rename_i h3; rw [if_neg h3] at h; exact absurd h h3
  ·rename_i h2; rw [if_neg h2] at h; exact absurd h h2
theorem aCz {x:Lay} {g t:T3} (h:(grV x g t).2=0):(grV x g t).1.1=KX x:=by
 unfold grV at h ⊢
 split
 ·rename_i hw; rw [if_pos hw] at h; rw [aCa h,hw]
 ·rename_i hw; exact (Bool.eq_false_iff.2 hw).symm
theorem aBB {x:Lay} (h:x.1=1):KX (GQ x) = !KX x:=by
 unfold KX GQ
 simp [h]
theorem aCg {m : Mdl} {ps : List Prm} {T : List T3} {F : List (List Int)} {g : T3} {s st : Int} (hk : 1 <= m.2.length) (hT : T.length = m.2.length + 1) (hd : (m.2.getD (m.2.length - 1) bA).1 = 1) (h1 : (pV m ps T F g s st).2.2 = 0) (h2 : (pV (nP m) ps T F g s st).2.2 = 0) :
    ((pV m ps T F g s st).1.length = m.2.length /\ (pV (nP m) ps T F g s st).1.length = m.2.length) /\ ((∀ G ∈ (pV m ps T F g s st).1, uZ G) /\ ∀ G ∈ (pV (nP m) ps T F g s st).1, uZ G) /\ (∀ j, j < m.2.length - 1 -> (pV m ps T F g s st).1.getD j dV = (pV (nP m) ps T F g s st).1.getD j dV) /\
      ((pV m ps T F g s st).1.getD (m.2.length - 1) dV).1 ≠ ((pV (nP m) ps T F g s st).1.getD (m.2.length - 1) dV).1 := by
  have hl : (nP m).2.length = m.2.length := by unfold nP; rw [List.length_set]
  unfold pV at h1 h2 ⊢
  by_cases e1 : C6 m ps T F st g = 0
  rotate_left
  · rw [if_neg e1] at h1; exact absurd h1 e1
  by_cases e2 : C6 (nP m) ps T F st g = 0
  rotate_left
  · rw [if_neg e2] at h2; exact absurd h2 e2
  rw [if_pos e1] at h1 ⊢
  rw [if_pos e2] at h2 ⊢
  rw [hl] at h2 ⊢
  refine ⟨⟨by rw [O7 _ _ _ h1, List.length_replicate], by rw [O7 _ _ _ h2, List.length_replicate]⟩, ⟨GF _ _ _ RF, GF _ _ _ RF⟩, ?_⟩
  obtain ⟨n, hn⟩ : ∃ n, m.2.length = n + 1 := ⟨m.2.length - 1, by omega⟩
  have hb : ((List.replicate T.length ([] : List T3)).set m.2.length [g]).getD m.2.length [] = [g] := by
    rw [List.getD_eq_getElem?_getD, List.getElem?_set_self (by rw [List.length_replicate]; omega)]; rfl
  generalize hB : (List.replicate T.length ([] : List T3)).set m.2.length [g] = B at h1 h2 hb ⊢
  have hx1 := aC8 hk
  rw [hn] at h1 h2 hb ⊢
  unfold oH at h1 h2 ⊢
  rw [hn, Nat.add_sub_cancel] at hx1 hd
  have l1 : iC m ps T F st s (n + 1) B = KA m ps T F st s (n + 1) B g := by unfold iC; rw [hb]
  have l2 : iC (nP m) ps T F st s (n + 1) B = KA (nP m) ps T F st s (n + 1) B g := by unfold iC; rw [hb]
  rw [l1] at h1 ⊢
  rw [l2] at h2 ⊢
  unfold KA at h1 h2 ⊢
  rw [Nat.add_sub_cancel] at h1 h2 ⊢
  rw [hx1] at h2 ⊢
  rw [aDb] at h2 ⊢
  by_cases g1 : (grV (m.2.getD n bA) g (T.getD n Z3)).2 = 0
  rotate_left
  · simp only [if_neg g1] at h1; exact absurd h1 g1
  by_cases g2 : (grV (GQ (m.2.getD n bA)) g (T.getD n Z3)).2 = 0
  rotate_left
  · simp only [if_neg g2] at h2; exact absurd h2 g2
  simp only [if_pos g1] at h1 ⊢
  simp only [if_pos g2] at h2 ⊢
  have ek : (GQ (m.2.getD n bA)).1 = (m.2.getD n bA).1 := rfl
  have ef : (GQ (m.2.getD n bA)).2.2.2.2.2.1 = (m.2.getD n bA).2.2.2.2.2.1 := rfl
  rw [ek, ef] at h2 ⊢
  generalize EQ st s ((n + 1 : Nat) : Int) (onV (m.2.getD n bA) (ps.getD n fP) g (T.getD n Z3) (F.getD (n + 1) []) st s ((n + 1 : Nat) : Int)).2 (m.2.getD n bA).1 (m.2.getD n bA).2.2.2.2.2.1 g (onV (m.2.getD n bA) (ps.getD n fP) g (T.getD n Z3) (F.getD (n + 1) []) st s ((n + 1 : Nat) : Int)).1 B = w at h1 h2 ⊢
  by_cases hw : w.1 = 0
  rotate_left
  · rw [if_neg hw] at h1; exact absurd h1 hw
  rw [if_pos hw] at h1 h2 ⊢
  rw [if_pos hw]
  have key := RV (m := m) (ps := ps) (T := T) (F := F) (st := st) (s := s) n ((List.replicate (n + 1) dV).set n (grV (m.2.getD n bA) g (T.getD n Z3)).1) ((List.replicate (n + 1) dV).set n (grV (GQ (m.2.getD n bA)) g (T.getD n Z3)).1) w.2 (by omega) (by simp; omega) (by simp; omega) (fun j hj => by
    rw [List.getD_eq_getElem?_getD, List.getElem?_set_ne (by omega), List.getD_eq_getElem?_getD, List.getElem?_set_ne (by omega)]) h1 h2
  rw [hn, Nat.add_sub_cancel] at key
  obtain ⟨a, b, c⟩ := key
  refine ⟨a, ?_⟩
  have se : ∀ G : G3, ((List.replicate (n + 1) dV).set n G).getD n dV = G := fun G => by rw [List.getD_eq_getElem?_getD, List.getElem?_set_self (by simp)]; rfl
  rw [b, c, se, se]
  rw [aCz g1, aCz g2, aBB hd]
  cases KX (m.2.getD n bA) <;> simp
theorem SI {a:T3} {Q:Bool->Prop} (ha:E9 a) (h:Q true):iY a a Q:=by
 refine ⟨aAa ha.1 ?_⟩
 rw [decide_eq_true rfl,if_neg (by simp)]
 refine ⟨?_⟩
 refine R8 (B:=fA (a.2.2.length:Int) a.2.2 a.2.2 _ _) a.2.2 a.2.2 rfl (K0:=Q true) (K1:=Q false) ?_ ?_ ?_
 ·intro i hi X hX hK
  unfold fA
  have:=ha.2
  rw [if_pos (by simpa using hi)]
  refine ⟨by omega,by omega,?_⟩
  rw [if_neg (by simp),aA _ (by omega) (by omega)]; exact hX rfl
 ·intro hK X
  unfold fA
  rw [if_neg (by simp)]
  exact hK
 ·rw [if_pos rfl]; exact h
theorem aBc {l:List G3} (h:∀ G∈l,uZ G) {i:Nat} (hi:i<l.length):uZ (l.getD i dV):=by
 rw [List.getD_eq_getElem?_getD,List.getElem?_eq_getElem hi]
 exact h _ (List.getElem_mem _)
theorem PL {ps : List Prm} {s st : Int} : ∀ (r : List Lay) (i : Nat) (a : Act), Ten8 a.1 -> Ten8 (q5 ps s st r i a).1.1
  | [], i, a, h => h
  | x :: r, i, a, h => by
    unfold q5
    split
    · intro t ht; cases ht
    · refine PL r (i + 1) _ fun t ht => ?_
      rcases List.mem_append.1 ht with ht | ht
      · exact h t ht
      · rw [List.mem_singleton.1 ht]; exact aDS h
theorem aBN {m:Mdl} {ps:List Prm} {x:T3} {s st:Int} (hx:All8 x.2.2):Ten8 (EI m ps x s st).1.1:=by
 unfold EI
 split
 ·intro t ht; cases ht
 split
 ·intro t ht; cases ht
 ·exact PL _ _ _ fun t ht=>by rw [List.mem_singleton.1 ht]; exact hx
theorem aD3 {n:aFx} {l:List Int} {seed:Int} {Q:Bool->Prop} (hl:n.1.2.length<=10000000000000) (hb:n.2.2.1.length<=1000000000000000) (b8:All8 n.2.2.1) (x8:All8 n.2.2.2.2.1) (l8:l.length<=1000000000000000/\All8 l) (h:Q true):iD n l seed Q:=by
 refine ⟨?_⟩
 split
 ·exact yV h
 rename_i hn
 have hn:=Bool.eq_false_iff.2 hn
 simp only [Bool.or_eq_false_iff,decide_eq_false_iff_not] at hn
 refine aFb hl hb b8 x8 fun ps x e he => ?_
 dsimp only
 have ew:IntKind.i64.wrap ((n.1.2.length:Int)-1)=((n.1.2.length-1:Nat):Int):=by rw [aA _ (by omega) (by omega)]; omega
 refine kI (b:=(e != 0)) (c:=(n.1.2.getD (n.1.2.length-1) bA).1 != 1) (fun _ P hP=>by
  rw [ew]
  simp only [Int.toNat_natCast]
  exact ⟨by omega,hP⟩) (fun v3 e3 => ?_) rfl
 cases v3 with
 | true=>rw [if_pos rfl]; exact yV h
 | false =>
 rw [if_neg (by simp)]
 have e3:=e3.symm
 simp only [Bool.or_eq_false_iff,bne_eq_false_iff_eq] at e3
 obtain ⟨p1,p2,p3,_⟩:=he e3.1
 refine aEu hl p2 p3 ⟨?_⟩
 rw [aA ((n.1.2.length:Int)+1) (by omega) (by omega)]
 by_cases hf:(EI n.1 ps x seed 0).2.2=0
 rotate_left
 ·rw [if_pos (by simp [hf])]
  refine tT (b:=((EI n.1 ps x seed 0).2.2 != 0)) (c:=true) (fun _ P hP=>yV hP) (fun v e => ?_) rfl
  rw [e,show ((EI n.1 ps x seed 0).2.2 != 0)=true by simpa using hf]
  exact h
 obtain ⟨a1,a2⟩:=aBZ hf
 have a8:=aBN (m:=n.1) (ps:=ps) (s:=seed) (st:=0) p3
 generalize hA:EI n.1 ps x seed 0=A at hf a1 a2 a8 ⊢
 rw [if_neg (by simp only [Bool.or_eq_true,bne_iff_ne,ne_eq]; omega),ew]
 simp only [Int.toNat_natCast,List.nil_append]
 refine ⟨by simp; omega,by omega,by omega,⟨by omega,?_⟩⟩
 simp only [Int.toNat_natCast]
 have ht:=eC (show cP (A.1.1.getD n.1.2.length Z3)=true by
  rw [List.getD_eq_getElem?_getD,List.getElem?_eq_getElem (by omega)]
  exact a2 _ (List.getElem_mem _))
 refine aF1 (t:=A.1.1.getD n.1.2.length Z3) (by omega) (by omega) l8.1 ?_
 have g8:All8 (aA1 (A.1.1.getD n.1.2.length Z3) l 0).2.2:=aGb l8.2
 refine ZI (m:=n.1) (by omega) (by omega) p2 a8 g8 ?_
 refine ZI (m:=nP n.1) (by unfold nP; rw [List.length_set]; omega) (by omega) p2 a8 g8 ?_
 generalize hG:aA1 (A.1.1.getD n.1.2.length Z3) l 0=g at g8 ⊢
 by_cases h1:(pV n.1 ps A.1.1 A.1.2 g seed 0).2.2=0
 rotate_left
 ·rw [if_pos (by simp [h1])]; exact yV h
 by_cases h2:(pV (nP n.1) ps A.1.1 A.1.2 g seed 0).2.2=0
 rotate_left
 ·rw [if_pos (by simp [h2])]; exact yV h
 rw [if_neg (by simp [h1,h2])]
 obtain ⟨⟨k1,k2⟩,⟨s1,s2⟩,k3,k4⟩:=aCg (by omega) a1 e3.2 h1 h2
 generalize (pV n.1 ps A.1.1 A.1.2 g seed 0).1=u at k1 s1 k3 k4 ⊢
 generalize (pV (nP n.1) ps A.1.1 A.1.2 g seed 0).1=v at k2 s2 k3 k4 ⊢
 refine ⟨?_⟩
 rw [ew]
 refine kI (c:=((u.getD (n.1.2.length-1) dV).1==(v.getD (n.1.2.length-1) dV).1)) (fun _ P hP=>by
  simp only [Int.toNat_natCast]
  exact ⟨by omega,by omega,hP⟩) (fun v14 e14 => ?_) rfl
 have e14':v14=false:=by
  rw [e14]
  simp only [Bool.or_eq_false_iff,bne_eq_false_iff_eq,beq_eq_false_iff_ne]
  exact ⟨⟨by omega,by omega⟩,k4⟩
 subst e14'
 rw [if_neg (by simp)]
 refine ⟨?_⟩
 refine Loop.range (B:=dA u v ((n.1.2.length-1:Nat):Int) _ _) (n.1.2.length-1) (fun i=>(i:Int)) (fun _=>True) trivial ?_ ?_
 ·intro i hi _ X hX
  unfold dA
  rw [if_pos (decide_eq_true (show (i:Int)<((n.1.2.length-1:Nat):Int) by omega))]
  simp only [Int.toNat_natCast]
  refine ⟨by omega,by omega,?_⟩
  have hk:=k3 i hi
  have hs:=aBc s1 (i:=i) (by omega)
  have hk:u.getD i (false,([],0,[]),[],0,[])=v.getD i (false,([],0,[]),[],0,[]):=hk
  rw [<- hk]
  refine kI (b:=((u.getD i (false,([],0,[]),[],0,[])).1 != (u.getD i (false,([],0,[]),[],0,[])).1)) (c:=false) (fun _ P hP=>⟨by omega,by omega,SI hs.1 hP⟩) (fun v16 e16 => ?_) rfl
  refine kI (c:=false) (fun _ P hP=>⟨by omega,by omega,SI hs.2 hP⟩) (fun v19 e19 => ?_) rfl
  have:v19=false:=by rw [e19,e16]; simp
  subst this
  rw [if_neg (by simp),aA _ (by omega) (by omega)]
  exact hX trivial
 ·intro _ X
  unfold dA
  rw [if_neg (by simp)]
  exact yV h
end Go.Proofs.YtcfpfefadlnmcaaGreat

namespace Go.Proofs.YtcfpfefadlnmcaaGreat
open Go.Mach Go.RowKit
set_option maxRecDepth 100000
set_option linter.unusedVariables false
abbrev aG8:Ty := .pair (.int .i64) (.pair (.int .i64) (.pair (.int .i64) (.pair (.int .i64) (.pair (.int .i64) (.pair (.int .i64) .bool)))))
abbrev aGc:Ty := .pair (.pair (.pair (.int .i64) (.pair (.int .i64) (.int .i64))) (.slc aG8)) (.pair (.int .u64) (.pair (.slc (.int .i8)) (.pair (.int .i64) (.pair (.slc (.int .i8)) (.int .i64)))))
theorem aAi {l:List Int} (h:HW (.slc (.int .i8)) l):l.length<=1000000000000000/\All8 l:=by
 obtain ⟨h1,h2⟩:=h
 refine ⟨?_,fun y hy=>aFu (h2 y hy)⟩
 unfold reachBytes wN IntKind.bits at h1
 simp at h1
 omega
theorem IE {n:aFx} (h:HW aGc n):n.1.2.length<=10000000000000/\n.2.2.1.length<=1000000000000000/\All8 n.2.2.1/\All8 n.2.2.2.2.1:=by
 obtain ⟨⟨_,h1,_⟩,_,h2,_,h3,_⟩:=h
 refine ⟨?_,(aAi h2).1,(aAi h2).2,(aAi h3).2⟩
 unfold reachBytes at h1
 have e:wN aG8=49:=by decide
 rw [e] at h1
 have h1:n.1.2.length*49<=_:=h1
 omega
end Go.Proofs.YtcfpfefadlnmcaaGreat
