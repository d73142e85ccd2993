/- CloseThin returns true for every input. Condition: where the table lies. -/
import Derived.Test.YtafdijcolponjaaDoorCloseI
namespace Go.Proofs.YtafdijcolponjaaDoor
open Go.RowKit

set_option maxRecDepth 20000 in
set_option maxHeartbeats 2000000 in
theorem cthin_walk (n : Int) (a1 : Option Addr) (len1 cap1 : Nat) (z1 : Nat → Nat → Int) (w : World)
    (_hn : (Lit.int .i64 n).wf = true) (h1 : IsRowS 2 w a1 len1 cap1 z1) (hT : TabIs w) :
    Calls Tryd.prog 15 #[.int .i64 n, .slice a1 len1 cap1] w (YesEnds w) := by
  have HT := Lib.hid hT
  have hwf := rowS_wf h1
  have HSm := Lib.hid (small_any n w)
  have HFe := Lib.hid (efew_any a1 len1 cap1 z1 w h1)
  have hm60 : fewN len1 ≤ 60 := Nat.min_le_right _ _
  have hml : fewN len1 ≤ len1 := Nat.min_le_left _ _
  have hff := fewN_few len1
  generalize smallN n = nn at *
  generalize fewN len1 = m at *
  have HWf := Lib.hid (fun i (hi : i < m) j (hj : j < 2) => hwf i (by omega) j hj)
  clear hT h1 _hn hwf hml
  go_enter Tryd.func15, Tryd.ntmps15
  go_wp2_with fail
  go_fit HSm.out
  rintro e w' ⟨rfl, rfl⟩
  go_wp2_with fail
  go_fit HFe.out
  rintro e wa ⟨g, c, rfl, hown, hB1⟩
  have HFe2 := efew_any (some ⟨g, 0, none⟩) m c z1 wa (rowS_of_owns hown HWf.out)
  rw [hff] at HFe2
  have HFe2 := Lib.hid HFe2
  have HEa := Lib.hid (EdgesIn.of_owns hown)
  have HB1 := Lib.hid hB1
  clear hown hB1 hff
  go_wp2_with fail
  go_fit HFe2.out
  rintro e wb ⟨g2, c2, rfl, hown, hB2⟩
  have hB2' := HB1.out.trans (hB2.mono HB1.out.size)
  have HO := Lib.hid (thin_any nn m c2 (some ⟨g2, 0, none⟩) z1 wb (EdgesIn.of_owns hown) (tab_below HT.out hB2' (Nat.le_refl _)))
  have HEb := Lib.hid (HEa.out.below hB2 (Nat.le_refl _))
  have HB2 := Lib.hid hB2'
  clear hown hB2 hB2'
  go_wp2_with fail
  go_fit HO.out
  rintro e wc ⟨hB, (⟨hyes, v, rfl, hown⟩ | ⟨hno, rfl⟩)⟩
  · obtain ⟨q, rfl, hq, hM⟩ := of_yes hyes
    have hE3 := HEb.out.below hB (Nat.le_refl _)
    have hMay := cmay_any q (some ⟨g, 0, none⟩) m c z1 wc hE3
    rw [hyes] at hMay
    have hRT := rthin_any q m c (some ⟨g, 0, none⟩) z1 wc hq (by omega) hE3 hM
    rw [Int.toNat_natCast] at hown
    generalize thinL q (ofZ q z1 m) = K at *
    obtain ⟨ad, cx, rfl⟩ := owns_slice hown
    have HMay := Lib.hid hMay
    have HRT := Lib.hid hRT
    have HX := Lib.hid hown
    have HB3 := Lib.hid (HB2.out.trans (hB.mono HB2.out.size))
    clear hyes hB hown hM hE3 hMay hRT
    go_wp2_with fail
    go_fit HMay.out
    rintro e w' ⟨rfl, rfl⟩
    go_wp2_with fail
    go_fit HRT.out
    rintro e wd ⟨v', rfl, hown, hB⟩
    obtain ⟨ad', cx', rfl⟩ := owns_slice hown
    have HSM := Lib.hid (sameE_any _ _ _ _ _ _ _ _ wd (owns_base (owns_of_heap HX.out (w' := wd) fun p hp => hB.block p (owns_lt HX.out p hp)) fun _ _ => Nat.zero_le _) (owns_base hown fun _ _ => Nat.zero_le _))
    have HB4 := Lib.hid (HB3.out.trans (hB.mono HB3.out.size))
    clear hB hown
    go_wp2_with fail
    go_fit HSM.out
    rintro e we ⟨rfl, hS⟩
    rw [sameE_self]
    have hB5 := HB4.out.trans hS.below
    have HW := Lib.hid (cworks_any we (tab_below HT.out hB5 (Nat.le_refl _)))
    have HB5 := Lib.hid hB5
    clear hS hB5
    go_wp2_with fail
    go_fit HW.out
    rintro e wf ⟨rfl, hB6⟩
    have HB6 := Lib.hid (HB5.out.trans (hB6.mono HB5.out.size))
    clear hB6
    go_wp2_with fail
    go_ret
    exact ⟨rfl, HB6.out⟩
  · have hMay := cmay_any nn (some ⟨g, 0, none⟩) m c z1 wc (HEb.out.below hB (Nat.le_refl _))
    rw [hno] at hMay
    have HMay := Lib.hid hMay
    have hB5 := HB2.out.trans (hB.mono HB2.out.size)
    have HW := Lib.hid (cworks_any wc (tab_below HT.out hB5 (Nat.le_refl _)))
    have HB5 := Lib.hid hB5
    clear hB hno hMay hB5
    go_wp2_with fail
    go_fit HMay.out
    rintro e w' ⟨rfl, rfl⟩
    go_wp2_with fail
    go_fit HW.out
    rintro e wf ⟨rfl, hB6⟩
    have HB6 := Lib.hid (HB5.out.trans (hB6.mono HB5.out.size))
    clear hB6
    go_wp2_with fail
    go_ret
    exact ⟨rfl, HB6.out⟩
end Go.Proofs.YtafdijcolponjaaDoor
