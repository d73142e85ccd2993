/- CloseOf returns true for every input. Condition: where the table lies. -/
import Derived.Test.YtafdijcolponjaaDoorCloseI
namespace Go.Proofs.YtafdijcolponjaaDoor
open Go.RowKit

set_option maxRecDepth 20000 in
set_option maxHeartbeats 2000000 in
theorem cof_walk (n : Int) (a1 : Option Addr) (len1 cap1 : Nat) (z1 : Nat → Nat → Int) (a : Int) (w : World)
    (_hn : (Lit.int .i64 n).wf = true) (h1 : IsRowS 2 w a1 len1 cap1 z1) (_ha : (Lit.int .i64 a).wf = true) (hT : TabIs w) :
    Calls Tryd.prog 17 #[.int .i64 n, .slice a1 len1 cap1, .int .i64 a] w (YesEnds w) := by
  have HT := Lib.hid hT
  have hwf := rowS_wf h1
  have HSm := Lib.hid (small_any n w)
  have HFe := Lib.hid (efew_any a1 len1 cap1 z1 w h1)
  have hm60 : fewN len1 ≤ 60 := Nat.min_le_right _ _
  have hml : fewN len1 ≤ len1 := Nat.min_le_left _ _
  have hff := fewN_few len1
  generalize smallN n = nn at *
  generalize fewN len1 = m at *
  have HWf := Lib.hid (fun i (hi : i < m) j (hj : j < 2) => hwf i (by omega) j hj)
  clear hT h1 _hn _ha hwf hml
  go_enter Tryd.func17, Tryd.ntmps17
  go_wp2_with fail
  go_fit HSm.out
  rintro e w' ⟨rfl, rfl⟩
  go_wp2_with fail
  go_fit HFe.out
  rintro e wa ⟨g, c, rfl, hown, hB1⟩
  have HRa := Lib.hid (rowS_of_owns hown HWf.out)
  have HFe2 := efew_any (some ⟨g, 0, none⟩) m c z1 wa HRa.out
  rw [hff] at HFe2
  have HFe2 := Lib.hid HFe2
  have HEa := Lib.hid (EdgesIn.of_owns hown)
  have HB1 := Lib.hid hB1
  have HFF := Lib.hid hff
  clear hown hB1 hff
  go_wp2_with fail
  go_fit HFe2.out
  rintro e wb ⟨g2, c2, rfl, hown, hB2⟩
  have hB2' := HB1.out.trans (hB2.mono HB1.out.size)
  have HO := Lib.hid (cof_any nn m c2 (some ⟨g2, 0, none⟩) z1 wb (EdgesIn.of_owns hown) (tab_below HT.out hB2' (Nat.le_refl _)))
  have HEb := Lib.hid (HEa.out.below hB2 (Nat.le_refl _))
  have HRb := Lib.hid (HRa.out.below hB2 (Nat.le_refl _) (by decide))
  have HB2 := Lib.hid hB2'
  clear hown hB2 hB2'
  go_wp2_with fail
  go_fit HO.out
  rintro e wc ⟨hB, (⟨hyes, v, rfl, hown⟩ | ⟨hno, rfl⟩)⟩
  · obtain ⟨q, rfl, hq, hM⟩ := of_yes hyes
    rw [Int.toNat_natCast] at hown
    have HEc := Lib.hid (HEb.out.below hB (Nat.le_refl _))
    have HFe3 := efew_any (some ⟨g, 0, none⟩) m c z1 wc (HRb.out.below hB (Nat.le_refl _) (by decide))
    rw [HFF.out] at HFe3
    have HFe3 := Lib.hid HFe3
    obtain ⟨K, hK⟩ : ∃ K, closeL q (ofZ q z1 m) q = K := ⟨_, rfl⟩
    rw [hK] at hown
    obtain ⟨ad, cx, rfl⟩ := owns_slice hown
    have HK := Lib.hid hK
    have HX := Lib.hid hown
    have HB3 := Lib.hid (HB2.out.trans (hB.mono HB2.out.size))
    have HM := Lib.hid hM
    have HYes := Lib.hid hyes
    clear hyes hB hown hM hK
    go_wp2_with fail
    go_fit HFe3.out
    rintro e wd ⟨g3, c3, rfl, hown, hB⟩
    have hB4 := HB3.out.trans (hB.mono HB3.out.size)
    have HF := Lib.hid (cfrom_any q a m c3 (some ⟨g3, 0, none⟩) z1 wd (EdgesIn.of_owns hown) (tab_below HT.out hB4 (Nat.le_refl _)))
    have HEd := Lib.hid (HEc.out.below hB (Nat.le_refl _))
    have HX4 := Lib.hid (owns_of_heap HX.out (w' := wd) fun p hp => hB.block p (owns_lt HX.out p hp))
    have HB4 := Lib.hid hB4
    clear hown hB hB4
    go_wp2_with fail
    go_fit HF.out
    rintro e we ⟨hB, (⟨-, ha0, ha1, v, rfl, hown⟩ | ⟨-, hna, rfl⟩ | ⟨hno, -⟩)⟩
    · obtain ⟨b, rfl⟩ : ∃ x : Nat, a = (x : Int) := ⟨a.toNat, by omega⟩
      rw [Int.toNat_natCast, Int.toNat_natCast] at hown
      have hEe := HEd.out.below hB (Nat.le_refl _)
      have hMay := cmay_any q (some ⟨g, 0, none⟩) m c z1 we hEe
      rw [HYes.out] at hMay
      have hRO := rof_any q m c (some ⟨g, 0, none⟩) z1 we hq hEe HM.out
      rw [HK.out] at hRO
      have hRF := fun W hE => rfrom_any q m c b (some ⟨g, 0, none⟩) z1 W hq hE HM.out (by omega)
      generalize fromL q (ofZ q z1 m) b = l at *
      obtain ⟨adf, cf, rfl⟩ := owns_slice hown
      have HMay := Lib.hid hMay
      have HRO := Lib.hid hRO
      have HRF := Lib.hid hRF
      have HY := Lib.hid hown
      have HEe := Lib.hid hEe
      have HX5 := Lib.hid (owns_of_heap HX4.out (w' := we) fun p hp => hB.block p (owns_lt HX4.out p hp))
      have HB5 := Lib.hid (HB4.out.trans (hB.mono HB4.out.size))
      have k1 : ¬ ((b : Int) < 0) := by omega
      have k2 : ¬ ((q : Int) ≤ (b : Int)) := by omega
      clear hB hown hMay hRO hRF hEe
      go_wp2_with fail
      go_fit HMay.out
      rintro e w' ⟨rfl, rfl⟩
      go_wp2_with fail
      go_fit HRO.out
      rintro e wf ⟨v', rfl, hown, hB⟩
      obtain ⟨ad', cx', rfl⟩ := owns_slice hown
      have HSM := Lib.hid (sameE_any _ _ _ _ _ _ _ _ wf (owns_base (owns_of_heap HX5.out (w' := wf) fun p hp => hB.block p (owns_lt HX5.out p hp)) fun _ _ => Nat.zero_le _) (owns_base hown fun _ _ => Nat.zero_le _))
      have HEf := Lib.hid (HEe.out.below hB (Nat.le_refl _))
      have HYf := Lib.hid (owns_of_heap HY.out (w' := wf) fun p hp => hB.block p (owns_lt HY.out p hp))
      have HB6 := Lib.hid (HB5.out.trans (hB.mono HB5.out.size))
      clear hB hown
      go_wp2_with fail
      go_fit HSM.out
      rintro e wg ⟨rfl, hS⟩
      rw [sameE_self]
      have hSb : Below wf.heap.size wf wg := hS.below
      have HRG := Lib.hid (HRF.out wg (HEf.out.below hSb (Nat.le_refl _)))
      have HYg := Lib.hid (owns_of_heap HYf.out (w' := wg) fun p hp => hSb.block p (owns_lt HYf.out p hp))
      have HB7 := Lib.hid (HB6.out.trans (hSb.mono HB6.out.size))
      clear hS hSb
      go_wp2_with fail
      go_fit HRG.out
      rintro e wh ⟨v', rfl, hown, hB⟩
      obtain ⟨adh, ch, rfl, hsh⟩ := src_list hown
      obtain ⟨adg, cg, hvg, hsg⟩ := src_list (owns_of_heap HYg.out (w' := wh) fun p hp => hB.block p (owns_lt HYg.out p hp))
      cases hvg
      have HSI := Lib.hid (same_any _ _ _ _ _ _ _ _ wh hsg hsh)
      have HB8 := Lib.hid (HB7.out.trans (hB.mono HB7.out.size))
      clear hB hown hsh hsg
      go_wp2_with fail
      go_fit HSI.out
      rintro e wi ⟨rfl, hS⟩
      rw [sameB_self]
      have hB9 := HB8.out.trans hS.below
      have HW := Lib.hid (cworks_any wi (tab_below HT.out hB9 (Nat.le_refl _)))
      have HB9 := Lib.hid hB9
      clear hS hB9
      go_wp2_with fail
      go_fit HW.out
      rintro e wj ⟨rfl, hB6⟩
      have HBj := Lib.hid (HB9.out.trans (hB6.mono HB9.out.size))
      clear hB6
      go_wp2_with fail
      go_ret
      exact ⟨rfl, HBj.out⟩
    · have hEe := HEd.out.below hB (Nat.le_refl _)
      have hMay := cmay_any q (some ⟨g, 0, none⟩) m c z1 we hEe
      rw [HYes.out] at hMay
      have hRO := rof_any q m c (some ⟨g, 0, none⟩) z1 we hq hEe HM.out
      rw [HK.out] at hRO
      have HMay := Lib.hid hMay
      have HRO := Lib.hid hRO
      have HX5 := Lib.hid (owns_of_heap HX4.out (w' := we) fun p hp => hB.block p (owns_lt HX4.out p hp))
      have HB5 := Lib.hid (HB4.out.trans (hB.mono HB4.out.size))
      have HNa := Lib.hid hna
      clear hB hMay hRO hEe hna
      go_wp2_with fail
      go_fit HMay.out
      rintro e w' ⟨rfl, rfl⟩
      go_wp2_with fail
      go_fit HRO.out
      rintro e wf ⟨v', rfl, hown, hB⟩
      obtain ⟨ad', cx', rfl⟩ := owns_slice hown
      have HSM := Lib.hid (sameE_any _ _ _ _ _ _ _ _ wf (owns_base (owns_of_heap HX5.out (w' := wf) fun p hp => hB.block p (owns_lt HX5.out p hp)) fun _ _ => Nat.zero_le _) (owns_base hown fun _ _ => Nat.zero_le _))
      have HB6 := Lib.hid (HB5.out.trans (hB.mono HB5.out.size))
      clear hB hown
      go_wp2_with fail
      go_fit HSM.out
      rintro e wg ⟨rfl, hS⟩
      rw [sameE_self]
      have hB7 := HB6.out.trans hS.below
      have HW := Lib.hid (cworks_any wg (tab_below HT.out hB7 (Nat.le_refl _)))
      have HB7 := Lib.hid hB7
      clear hS hB7
      by_cases k1 : a < 0
      · go_wp2_with fail
        go_fit HW.out
        rintro e wj ⟨rfl, hB6⟩
        have HBj := Lib.hid (HB7.out.trans (hB6.mono HB7.out.size))
        clear hB6
        go_wp2_with fail
        go_ret
        exact ⟨rfl, HBj.out⟩
      · have k2 : (q : Int) ≤ a := by have := HNa.out; omega
        go_wp2_with fail
        go_fit HW.out
        rintro e wj ⟨rfl, hB6⟩
        have HBj := Lib.hid (HB7.out.trans (hB6.mono HB7.out.size))
        clear hB6
        go_wp2_with fail
        go_ret
        exact ⟨rfl, HBj.out⟩
    · exact absurd (HYes.out.symm.trans hno) (by decide)
  · have HFe3 := efew_any (some ⟨g, 0, none⟩) m c z1 wc (HRb.out.below hB (Nat.le_refl _) (by decide))
    rw [HFF.out] at HFe3
    have HFe3 := Lib.hid HFe3
    have HEc := Lib.hid (HEb.out.below hB (Nat.le_refl _))
    have HB3 := Lib.hid (HB2.out.trans (hB.mono HB2.out.size))
    have HNo := Lib.hid hno
    clear hB hno
    go_wp2_with fail
    go_fit HFe3.out
    rintro e wd ⟨g3, c3, rfl, hown, hB⟩
    have hB4 := HB3.out.trans (hB.mono HB3.out.size)
    have HF := Lib.hid (cfrom_any nn a m c3 (some ⟨g3, 0, none⟩) z1 wd (EdgesIn.of_owns hown) (tab_below HT.out hB4 (Nat.le_refl _)))
    have HEd := Lib.hid (HEc.out.below hB (Nat.le_refl _))
    have HB4 := Lib.hid hB4
    clear hown hB hB4
    go_wp2_with fail
    go_fit HF.out
    rintro e we ⟨hB, (⟨hy, -⟩ | ⟨hy, -⟩ | ⟨-, rfl⟩)⟩
    · exact absurd (hy.symm.trans HNo.out) (by decide)
    · exact absurd (hy.symm.trans HNo.out) (by decide)
    · have hMay := cmay_any nn (some ⟨g, 0, none⟩) m c z1 we (HEd.out.below hB (Nat.le_refl _))
      rw [HNo.out] at hMay
      have HMay := Lib.hid hMay
      have hB5 := HB4.out.trans (hB.mono HB4.out.size)
      have HW := Lib.hid (cworks_any we (tab_below HT.out hB5 (Nat.le_refl _)))
      have HB5 := Lib.hid hB5
      clear hB hMay hB5
      go_wp2_with fail
      go_fit HMay.out
      rintro e w' ⟨rfl, rfl⟩
      go_wp2_with fail
      go_fit HW.out
      rintro e wf ⟨rfl, hB6⟩
      have HB6 := Lib.hid (HB5.out.trans (hB6.mono HB5.out.size))
      clear hB6
      go_wp2_with fail
      go_ret
      exact ⟨rfl, HB6.out⟩
end Go.Proofs.YtafdijcolponjaaDoor
