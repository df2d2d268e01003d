/- Walks of package dense. -/
import Derived.Test.YtanjlcjpcenejaaTensor
namespace Go.Proofs.Ytanjlcjpcenejaa
open Go.RowKit

theorem allMay_drop (ts : List Pl.Ten) (k : Nat) (t : Pl.Ten) (h : ts[k]? = some t) : Pl.allMay (ts.drop k) = (Pl.mayT t && Pl.allMay (ts.drop (k + 1))) := by
  obtain ⟨hk, rfl⟩ := List.getElem?_eq_some_iff.1 h
  rw [List.drop_eq_getElem_cons hk]; rfl
theorem allLen_drop (L : Int) (ts : List Pl.Ten) (k : Nat) (t : Pl.Ten) (h : ts[k]? = some t) : Pl.allLen L (ts.drop k) = (decide ((t.dims.length : Int) = L) && Pl.allLen L (ts.drop (k + 1))) := by
  obtain ⟨hk, rfl⟩ := List.getElem?_eq_some_iff.1 h
  rw [List.drop_eq_getElem_cons hk]; rfl

set_option maxHeartbeats 1000000 in
theorem denseMay_any (b n c : Nat) (vs : Nat → TV) (ts : List Pl.Ten) (L : Int) (w : World) (h : TVs w w.heap.size b n vs ts) (hn : n ≤ 100) :
    Calls Try.prog 26 #[.int .i64 L, .slice (some ⟨b, 0, none⟩) n c] w fun e w' => e = .returned (.int .i64 (Pl.mayErr L ts)) ∧ Below w.heap.size w w' := by
  have HT := Lib.hid h
  clear h
  go_enter Try.func26, Try.ntmps26
  go_wp2_with fail
  go_loopw [11] (fun i wr => ∃ k : Nat, k ≤ n ∧ i = .int .i64 k ∧ Below w.heap.size w wr ∧ Pl.allMay (ts.drop k) = Pl.allMay ts) (fun i _ => n - (intOf i).toNat)
  case atStart => exact ⟨0, Nat.zero_le _, rfl, Below.refl _ _, rfl⟩
  case round =>
    obtain ⟨k, hk, rfl, hbr, hr⟩ := hrel
    have HR := Lib.hid hr
    clear hr
    by_cases hlt : k < n
    · have hbb := HT.out.hb
      have c0 := (hbr.cell (p := ⟨b, k * 3, none⟩) hbb).trans (HT.out.c0 k hlt)
      have c1 := (hbr.cell (p := ⟨b, k * 3 + 1, none⟩) hbb).trans (HT.out.c1 k hlt)
      have c2 := (hbr.cell (p := ⟨b, k * 3 + 2, none⟩) hbb).trans (HT.out.c2 k hlt)
      obtain ⟨t, ht⟩ : ∃ t, ts[k]? = some t := ⟨ts[k]'(by rw [HT.out.len]; exact hlt), List.getElem?_eq_getElem _⟩
      obtain ⟨he, hat⟩ := HT.out.at_ k t ht
      have HD := Lib.hid (allMay_drop ts k t ht)
      have HA := Lib.hid hat
      clear hat ht
      generalize vs k = v at *
      obtain ⟨vA, vn, vc, ve, vD, vm, vd⟩ := v
      simp only at c0 c1 c2 he HA
      subst he
      have hsz := hbr.size
      have hba : ∀ o, Below w.heap.size w (wr.alloc o) := fun o => hbr.alloc hsz o
      have HBA := Lib.hid hba
      clear hba
      go_wp2_with fail
      refine (mayT_any _ _ _ _ _ _ t _ ((HA.out.below (HBA.out _)).more (HBA.out _).size)).mono ?_
      rintro e w1 ⟨rfl, hb1⟩
      have HB1 := Lib.hid ((HBA.out _).trans (hb1.mono (HBA.out _).size))
      clear hb1 c0 c1 c2
      by_cases hm : Pl.mayT t = true
      · go_wp2_with fail
        go_roundw
        case rel => exact ⟨k + 1, by omega, by go_num, HB1.out, by rw [← HR.out, HD.out, hm, Bool.true_and]⟩
        case measure => simp [intOf]; omega
      · have hm' : Pl.mayT t = false := by simpa using hm
        clear hm
        go_wp2_with fail
        go_ret
        exact ⟨ret_int (by unfold Pl.mayErr; rw [← HR.out, HD.out, hm']; rfl), HB1.out⟩
    · have hk' : k = n := by omega
      have HA := Lib.hid (show Pl.allMay ts = true by rw [← HR.out, hk', List.drop_of_length_le (by rw [HT.out.len]; exact Nat.le_refl _)]; rfl)
      clear hk'
      obtain ⟨wo, rfl⟩ : ∃ wo : World, wo = wr := ⟨_, rfl⟩
      go_wp2_with fail
      go_loopw [21] (fun i wr => ∃ k : Nat, k ≤ n ∧ i = .int .i64 k ∧ Below w.heap.size w wr ∧ Pl.allLen L (ts.drop k) = Pl.allLen L ts) (fun i _ => n - (intOf i).toNat)
      case atStart => exact ⟨0, Nat.zero_le _, rfl, hbr, rfl⟩
      case round =>
        clear hlt HR hbr
        obtain ⟨q, hq, rfl, hbr, hr⟩ := hrel
        have HR := Lib.hid hr
        clear hr
        by_cases hlt : q < n
        · have hbb := HT.out.hb
          have c0 := (hbr.cell (p := ⟨b, q * 3, none⟩) hbb).trans (HT.out.c0 q hlt)
          have c1 := (hbr.cell (p := ⟨b, q * 3 + 1, none⟩) hbb).trans (HT.out.c1 q hlt)
          have c2 := (hbr.cell (p := ⟨b, q * 3 + 2, none⟩) hbb).trans (HT.out.c2 q hlt)
          obtain ⟨t, ht⟩ : ∃ t, ts[q]? = some t := ⟨ts[q]'(by rw [HT.out.len]; exact hlt), List.getElem?_eq_getElem _⟩
          obtain ⟨he, hat⟩ := HT.out.at_ q t ht
          have HD := Lib.hid (allLen_drop L ts q t ht)
          have HN := Lib.hid (show t.dims.length = (vs q).n by simpa using hat.dims.1)
          clear hat ht he
          generalize vs q = v at *
          obtain ⟨vA, vn, vc, ve, vD, vm, vd⟩ := v
          simp only at c0 c1 c2 HN
          have hsz := hbr.size
          have hba : ∀ o, Below w.heap.size w (wr.alloc o) := fun o => hbr.alloc hsz o
          have HBA := Lib.hid hba
          clear hba
          by_cases hv : (vn : Int) = L
          · have HV := Lib.hid (show decide ((t.dims.length : Int) = L) = true by rw [HN.out]; simpa using hv)
            have hne : ((vn : Int) != L) = false := by rw [hv]; simp
            clear hv
            go_wp2_with fail
            go_roundw
            case rel => exact ⟨q + 1, by omega, by go_num, HBA.out _, by rw [← HR.out, HD.out, HV.out, Bool.true_and]⟩
            case measure => simp [intOf]; omega
          · have HV := Lib.hid (show decide ((t.dims.length : Int) = L) = false by rw [HN.out]; simpa using hv)
            have hne : ((vn : Int) != L) = true := by rw [bne_iff_ne]; exact hv
            clear hv
            go_wp2_with fail
            go_ret
            exact ⟨ret_int (by unfold Pl.mayErr; rw [HA.out, ← HR.out, HD.out, HV.out]; rfl), HBA.out _⟩
        · have hk' : q = n := by omega
          have HB := Lib.hid (show Pl.allLen L ts = true by rw [← HR.out, hk', List.drop_of_length_le (by rw [HT.out.len]; exact Nat.le_refl _)]; rfl)
          clear hk'
          have HBR := Lib.hid hbr
          go_wp2_with fail
          go_ret
          exact ⟨ret_int (by unfold Pl.mayErr; rw [HA.out, HB.out]; rfl), HBR.out⟩

end Go.Proofs.Ytanjlcjpcenejaa
