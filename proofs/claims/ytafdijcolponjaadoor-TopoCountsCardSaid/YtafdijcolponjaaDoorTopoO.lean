/- TopoCounts returns true for every input. Condition: where the table lies. -/
import Derived.Test.YtafdijcolponjaaDoorTopoM
namespace Go.Proofs.YtafdijcolponjaaDoor
open Go.RowKit

set_option maxRecDepth 20000 in
set_option maxHeartbeats 2000000 in
theorem tcounts_walk (n : Int) (a2 : Option Addr) (len2 cap2 : Nat) (z2 : Nat → Nat → Int) (w : World)
    (_hn : (Lit.int .i64 n).wf = true) (h2 : IsRowS 2 w a2 len2 cap2 z2) (hT : TabIs w) :
    Calls Tryd.prog 13 #[.int .i64 n, .slice a2 len2 cap2] w (YesEnds w) := by
  have HT := Lib.hid hT
  have hwf := rowS_wf h2
  have HFe := Lib.hid (efew_any a2 len2 cap2 z2 w h2)
  have hm60 : fewN len2 ≤ 60 := Nat.min_le_right _ _
  have hml : fewN len2 ≤ len2 := Nat.min_le_left _ _
  have hff := fewN_few len2
  generalize fewN len2 = m at *
  have HWf := Lib.hid (fun i (hi : i < m) j (hj : j < 2) => hwf i (by omega) j hj)
  clear hT h2 _hn hwf hml
  by_cases hA : 6 < n
  · by_cases hA2 : n < 13
    · go_enter Tryd.func13, Tryd.ntmps13
      go_wp2_with fail
      go_fit HFe.out
      rintro e wa ⟨g, c, rfl, hown, hB1⟩
      have HFe2 := efew_any (some ⟨g, 0, none⟩) m c z2 wa (rowS_of_owns hown HWf.out)
      have hga : g < wa.heap.size := owns_lt hown g rfl
      rw [hff] at HFe2
      have HFe2 := Lib.hid HFe2
      have HEa := Lib.hid (EdgesIn.of_owns hown)
      have HB1 := Lib.hid hB1
      clear hown hB1
      go_wp2_with fail
      go_fit HFe2.out
      rintro e wb ⟨g2, c2, rfl, hown, hB2⟩
      have hB2' := HB1.out.trans (hB2.mono HB1.out.size)
      have HC := Lib.hid (tcount_any 6 m c2 (some ⟨g2, 0, none⟩) z2 wb (by omega) (EdgesIn.of_owns hown) (tab_below HT.out hB2' (Nat.le_refl _)))
      have HEb := Lib.hid (HEa.out.below hB2 (Nat.le_refl _))
      have hgb : g < wb.heap.size := Nat.lt_of_lt_of_le hga hB2.size
      have HB2 := Lib.hid hB2'
      clear hown hB2 hB2'
      go_wp2_with fail
      go_fit HC.out
      rintro e wc ⟨hB, (⟨hyes, h6, rfl⟩ | ⟨hyes, h12, rfl⟩ | ⟨hno, rfl⟩)⟩
      · obtain ⟨q, hq, hq5, hM⟩ := of_yes hyes
        have hE3 := HEb.out.below hB (Nat.le_refl _)
        have hMay := rg_may 6 (some ⟨g, 0, none⟩) m c z2 wc hE3
        rw [hyes] at hMay
        obtain rfl : q = 6 := by omega
        clear hq
        have hRC : Calls Tryd.prog 69 #[.int .i64 6, .slice (some ⟨g, 0, none⟩) m c] wc fun e w' => e = .returned (.int .i64 (cntF 6 (ofZ 6 z2 m) 6 0 : Nat)) ∧ Below wc.heap.size wc w' := rcounts_any 6 m c (some ⟨g, 0, none⟩) z2 (by omega) hM wc hE3 (fun b hb => by cases hb; exact Nat.lt_of_lt_of_le hgb hB.size)
        have ecv : cntF (6 : Int).toNat (ofZ (6 : Int).toNat z2 m) (6 : Int).toNat 0 = cntF 6 (ofZ 6 z2 m) 6 0 := rfl
        rw [ecv]
        generalize cntF 6 (ofZ 6 z2 m) 6 0 = cv at *
        have hcc : ((cv : Int) == (cv : Int)) = true := by simp
        have HMay := Lib.hid hMay
        have HRC := Lib.hid hRC
        have HB3 := Lib.hid (HB2.out.trans (hB.mono HB2.out.size))
        clear hyes hB hM hE3 hMay hRC
        go_wp2_with fail
        go_fit HMay.out
        rintro e w' ⟨rfl, rfl⟩
        go_wp2_with fail
        go_fit HRC.out
        rintro e wd ⟨rfl, hB⟩
        have HB4 := Lib.hid (HB3.out.trans (hB.mono HB3.out.size))
        clear hB
        have HW := Lib.hid (tworks_any wd (tab_below HT.out HB4.out (Nat.le_refl _)))
        go_wp2_with fail
        go_fit HW.out
        rintro e wz ⟨rfl, hB9⟩
        have HB9 := Lib.hid (HB4.out.trans (hB9.mono HB4.out.size))
        clear hB9
        go_wp2_with fail
        go_ret
        exact ⟨rfl, HB9.out⟩
      · omega
      · have hMay := rg_may 6 (some ⟨g, 0, none⟩) m c z2 wc (HEb.out.below hB (Nat.le_refl _))
        rw [hno] at hMay
        have HMay := Lib.hid hMay
        have HB3 := Lib.hid (HB2.out.trans (hB.mono HB2.out.size))
        clear hno hB hMay
        go_wp2_with fail
        go_fit HMay.out
        rintro e w' ⟨rfl, rfl⟩
        have HW := Lib.hid (tworks_any wc (tab_below HT.out HB3.out (Nat.le_refl _)))
        go_wp2_with fail
        go_fit HW.out
        rintro e wz ⟨rfl, hB9⟩
        have HB9 := Lib.hid (HB3.out.trans (hB9.mono HB3.out.size))
        clear hB9
        go_wp2_with fail
        go_ret
        exact ⟨rfl, HB9.out⟩
    · go_enter Tryd.func13, Tryd.ntmps13
      go_wp2_with fail
      go_fit HFe.out
      rintro e wa ⟨g, c, rfl, hown, hB1⟩
      have HFe2 := efew_any (some ⟨g, 0, none⟩) m c z2 wa (rowS_of_owns hown HWf.out)
      have hga : g < wa.heap.size := owns_lt hown g rfl
      rw [hff] at HFe2
      have HFe2 := Lib.hid HFe2
      have HEa := Lib.hid (EdgesIn.of_owns hown)
      have HB1 := Lib.hid hB1
      clear hown hB1
      go_wp2_with fail
      go_fit HFe2.out
      rintro e wb ⟨g2, c2, rfl, hown, hB2⟩
      have hB2' := HB1.out.trans (hB2.mono HB1.out.size)
      have HC := Lib.hid (tcount_any n m c2 (some ⟨g2, 0, none⟩) z2 wb (by omega) (EdgesIn.of_owns hown) (tab_below HT.out hB2' (Nat.le_refl _)))
      have HEb := Lib.hid (HEa.out.below hB2 (Nat.le_refl _))
      have hgb : g < wb.heap.size := Nat.lt_of_lt_of_le hga hB2.size
      have HB2 := Lib.hid hB2'
      clear hown hB2 hB2'
      go_wp2_with fail
      go_fit HC.out
      rintro e wc ⟨hB, (⟨hyes, h6, rfl⟩ | ⟨hyes, h12, rfl⟩ | ⟨hno, rfl⟩)⟩
      · omega
      · have hMay := rg_may n (some ⟨g, 0, none⟩) m c z2 wc (HEb.out.below hB (Nat.le_refl _))
        rw [hyes] at hMay
        have HMay := Lib.hid hMay
        have HB3 := Lib.hid (HB2.out.trans (hB.mono HB2.out.size))
        clear hyes hB hMay
        go_wp2_with fail
        go_fit HMay.out
        rintro e w' ⟨rfl, rfl⟩
        have HW := Lib.hid (tworks_any wc (tab_below HT.out HB3.out (Nat.le_refl _)))
        go_wp2_with fail
        go_fit HW.out
        rintro e wz ⟨rfl, hB9⟩
        have HB9 := Lib.hid (HB3.out.trans (hB9.mono HB3.out.size))
        clear hB9
        go_wp2_with fail
        go_ret
        exact ⟨rfl, HB9.out⟩
      · have hMay := rg_may n (some ⟨g, 0, none⟩) m c z2 wc (HEb.out.below hB (Nat.le_refl _))
        rw [hno] at hMay
        have HMay := Lib.hid hMay
        have HB3 := Lib.hid (HB2.out.trans (hB.mono HB2.out.size))
        clear hno hB hMay
        go_wp2_with fail
        go_fit HMay.out
        rintro e w' ⟨rfl, rfl⟩
        have HW := Lib.hid (tworks_any wc (tab_below HT.out HB3.out (Nat.le_refl _)))
        go_wp2_with fail
        go_fit HW.out
        rintro e wz ⟨rfl, hB9⟩
        have HB9 := Lib.hid (HB3.out.trans (hB9.mono HB3.out.size))
        clear hB9
        go_wp2_with fail
        go_ret
        exact ⟨rfl, HB9.out⟩
  · go_enter Tryd.func13, Tryd.ntmps13
    go_wp2_with fail
    go_fit HFe.out
    rintro e wa ⟨g, c, rfl, hown, hB1⟩
    have HFe2 := efew_any (some ⟨g, 0, none⟩) m c z2 wa (rowS_of_owns hown HWf.out)
    have hga : g < wa.heap.size := owns_lt hown g rfl
    rw [hff] at HFe2
    have HFe2 := Lib.hid HFe2
    have HEa := Lib.hid (EdgesIn.of_owns hown)
    have HB1 := Lib.hid hB1
    clear hown hB1
    go_wp2_with fail
    go_fit HFe2.out
    rintro e wb ⟨g2, c2, rfl, hown, hB2⟩
    have hB2' := HB1.out.trans (hB2.mono HB1.out.size)
    have HC := Lib.hid (tcount_any n m c2 (some ⟨g2, 0, none⟩) z2 wb (by omega) (EdgesIn.of_owns hown) (tab_below HT.out hB2' (Nat.le_refl _)))
    have HEb := Lib.hid (HEa.out.below hB2 (Nat.le_refl _))
    have hgb : g < wb.heap.size := Nat.lt_of_lt_of_le hga hB2.size
    have HB2 := Lib.hid hB2'
    clear hown hB2 hB2'
    go_wp2_with fail
    go_fit HC.out
    rintro e wc ⟨hB, (⟨hyes, h6, rfl⟩ | ⟨hyes, h12, rfl⟩ | ⟨hno, rfl⟩)⟩
    · obtain ⟨q, hq, hq5, hM⟩ := of_yes hyes
      have hE3 := HEb.out.below hB (Nat.le_refl _)
      have hMay := rg_may n (some ⟨g, 0, none⟩) m c z2 wc hE3
      rw [hyes] at hMay
      subst hq
      have hRC := rcounts_any q m c (some ⟨g, 0, none⟩) z2 (by omega) hM wc hE3 (fun b hb => by cases hb; exact Nat.lt_of_lt_of_le hgb hB.size)
      rw [Int.toNat_natCast]
      have h12' : ¬ 12 < (q : Int) := by omega
      generalize cntF q (ofZ q z2 m) q 0 = cv at *
      have hcc : ((cv : Int) == (cv : Int)) = true := by simp
      have HMay := Lib.hid hMay
      have HRC := Lib.hid hRC
      have HB3 := Lib.hid (HB2.out.trans (hB.mono HB2.out.size))
      clear hyes hB hM hE3 hMay hRC
      go_wp2_with fail
      go_fit HMay.out
      rintro e w' ⟨rfl, rfl⟩
      go_wp2_with fail
      go_fit HRC.out
      rintro e wd ⟨rfl, hB⟩
      have HB4 := Lib.hid (HB3.out.trans (hB.mono HB3.out.size))
      clear hB
      have HW := Lib.hid (tworks_any wd (tab_below HT.out HB4.out (Nat.le_refl _)))
      go_wp2_with fail
      go_fit HW.out
      rintro e wz ⟨rfl, hB9⟩
      have HB9 := Lib.hid (HB4.out.trans (hB9.mono HB4.out.size))
      clear hB9
      go_wp2_with fail
      go_ret
      exact ⟨rfl, HB9.out⟩
    · omega
    · have hMay := rg_may n (some ⟨g, 0, none⟩) m c z2 wc (HEb.out.below hB (Nat.le_refl _))
      rw [hno] at hMay
      have HMay := Lib.hid hMay
      have HB3 := Lib.hid (HB2.out.trans (hB.mono HB2.out.size))
      clear hno hB hMay
      go_wp2_with fail
      go_fit HMay.out
      rintro e w' ⟨rfl, rfl⟩
      have HW := Lib.hid (tworks_any wc (tab_below HT.out HB3.out (Nat.le_refl _)))
      go_wp2_with fail
      go_fit HW.out
      rintro e wz ⟨rfl, hB9⟩
      have HB9 := Lib.hid (HB3.out.trans (hB9.mono HB3.out.size))
      clear hB9
      go_wp2_with fail
      go_ret
      exact ⟨rfl, HB9.out⟩
end Go.Proofs.YtafdijcolponjaaDoor
