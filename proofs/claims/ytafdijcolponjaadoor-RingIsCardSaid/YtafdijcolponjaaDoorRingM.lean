/- RingLeast returns true for every input. Condition: where the table lies. -/
import Derived.Test.YtafdijcolponjaaDoorRingL
namespace Go.Proofs.YtafdijcolponjaaDoor
open Go.RowKit

theorem of_yes' {n : Int} {z : Nat → Nat → Int} {m : Nat} (h : ofB n z m = true) : ∃ q : Nat, n = (q : Int) ∧ q ≤ 500 ∧ mayE q z m = true := by
  unfold ofB at h
  rw [Bool.and_eq_true] at h
  have h1 := of_decide_eq_true h.1
  exact ⟨n.toNat, by omega, by omega, h.2⟩

set_option maxRecDepth 20000 in
set_option maxHeartbeats 2000000 in
theorem rgleast_walk (n : Int) (a1 : Option Addr) (len1 cap1 : Nat) (z1 : Nat → Nat → Int) (w : World)
    (_hn : (Lit.int .i64 n).wf = true) (h1 : IsRowS 2 w a1 len1 cap1 z1) (hT : TabIs w) :
    Calls Tryd.prog 18 #[.int .i64 n, .slice a1 len1 cap1] w (YesEnds w) := by
  have HT := Lib.hid hT
  have hwf := rowS_wf h1
  have HFw := Lib.hid (rfew_any n a1 len1 cap1 z1 w h1)
  have hm25 : few25 len1 ≤ 25 := Nat.min_le_right _ _
  have hml : few25 len1 ≤ len1 := Nat.min_le_left _ _
  have hff : fewN (few25 len1) = few25 len1 := Nat.min_eq_left (by omega)
  generalize small9 n = nn at *
  generalize few25 len1 = m at *
  have HWf := Lib.hid (fun i (hi : i < m) j (hj : j < 2) => hwf i (by omega) j hj)
  clear hT h1 _hn hwf hml
  go_enter Tryd.func18, Tryd.ntmps18
  go_wp2_with fail
  go_fit HFw.out
  rintro e wa ⟨g, c, rfl, hown, hB1⟩
  have HFe2 := efew_any (some ⟨g, 0, none⟩) m c z1 wa (rowS_of_owns hown HWf.out)
  rw [hff] at HFe2
  have HFe2 := Lib.hid HFe2
  have HEa := Lib.hid (EdgesIn.of_owns hown)
  have HB1 := Lib.hid hB1
  clear hown hB1 hff
  go_wp2_with fail
  go_fit HFe2.out
  rintro e wb ⟨g2, c2, rfl, hown, hB2⟩
  have hB2' := HB1.out.trans (hB2.mono HB1.out.size)
  have HO := Lib.hid (rgleast_any nn m c2 (some ⟨g2, 0, none⟩) z1 wb (EdgesIn.of_owns hown) (tab_below HT.out hB2' (Nat.le_refl _)))
  have HEb := Lib.hid (HEa.out.below hB2 (Nat.le_refl _))
  have HB2 := Lib.hid hB2'
  clear hown hB2 hB2'
  go_wp2_with fail
  go_fit HO.out
  rintro e wc ⟨hB, (⟨hyes, best, hla, hsh⟩ | ⟨hno, rfl⟩)⟩
  · obtain ⟨q, rfl, hq, hM⟩ := of_yes' hyes
    have hE3 := HEb.out.below hB (Nat.le_refl _)
    have hMay := rg_may q (some ⟨g, 0, none⟩) m c z1 wc hE3
    rw [hyes] at hMay
    have hRL := dleast_any q m c (some ⟨g, 0, none⟩) z1 wc hq hM hE3
    rw [Int.toNat_natCast] at hla
    rw [leastAt_ref (ofZ_inr hM) hla] at hRL
    have HMay := Lib.hid hMay
    have HRL := Lib.hid hRL
    have HB3 := Lib.hid (HB2.out.trans (hB.mono HB2.out.size))
    clear hyes hM hE3 hMay hRL hla
    rcases hsh with ⟨rfl, rfl⟩ | ⟨hne, v, rfl, hown⟩
    · clear hB
      go_wp2_with fail
      go_fit HMay.out
      rintro e w' ⟨rfl, rfl⟩
      go_wp2_with fail
      go_fit HRL.out
      rintro e wd ⟨ad', c', rfl, -, hB⟩
      have hB5 := HB3.out.trans (hB.mono HB3.out.size)
      have HW := Lib.hid (rgworks_any wd (tab_below HT.out hB5 (Nat.le_refl _)))
      have HB5 := Lib.hid hB5
      clear hB hB5
      go_wp2_with fail
      go_fit HW.out
      rintro e wf ⟨rfl, hB6⟩
      have HB6 := Lib.hid (HB5.out.trans (hB6.mono HB5.out.size))
      clear hB6
      go_wp2_with fail
      go_ret
      exact ⟨rfl, HB6.out⟩
    · have hl0 : 0 < best.length := List.length_pos_iff.2 hne
      have hlb : ((best.length : Int) == 0) = false := by rw [beq_eq_false_iff_ne]; omega
      have hln : ¬ (best.length : Int) = 0 := by omega
      obtain ⟨ad, cx, rfl, hs⟩ := src_list hown
      have HS := Lib.hid hs
      clear hB hown hs hne
      go_wp2_with fail
      go_fit HMay.out
      rintro e w' ⟨rfl, rfl⟩
      go_wp2_with fail
      go_fit HRL.out
      rintro e wd ⟨ad', c', rfl, hs', hB⟩
      have HSM := Lib.hid (same_any _ _ _ _ _ _ _ _ wd (HS.out.belowAll hB (Nat.le_refl _)) hs')
      have HB4 := Lib.hid (HB3.out.trans (hB.mono HB3.out.size))
      clear hB hs'
      go_wp2_with fail
      go_fit HSM.out
      rintro e we ⟨rfl, hS⟩
      rw [sameB_self]
      have hB5 := HB4.out.trans hS.below
      have HW := Lib.hid (rgworks_any we (tab_below HT.out hB5 (Nat.le_refl _)))
      have HB5 := Lib.hid hB5
      clear hS hB5
      go_wp2_with fail
      go_fit HW.out
      rintro e wf ⟨rfl, hB6⟩
      have HB6 := Lib.hid (HB5.out.trans (hB6.mono HB5.out.size))
      clear hB6
      go_wp2_with fail
      go_ret
      exact ⟨rfl, HB6.out⟩
  · have hMay := rg_may nn (some ⟨g, 0, none⟩) m c z1 wc (HEb.out.below hB (Nat.le_refl _))
    rw [hno] at hMay
    have HMay := Lib.hid hMay
    have hB5 := HB2.out.trans (hB.mono HB2.out.size)
    have HW := Lib.hid (rgworks_any wc (tab_below HT.out hB5 (Nat.le_refl _)))
    have HB5 := Lib.hid hB5
    clear hB hno hMay hB5
    go_wp2_with fail
    go_fit HMay.out
    rintro e w' ⟨rfl, rfl⟩
    go_wp2_with fail
    go_fit HW.out
    rintro e wf ⟨rfl, hB6⟩
    have HB6 := Lib.hid (HB5.out.trans (hB6.mono HB5.out.size))
    clear hB6
    go_wp2_with fail
    go_ret
    exact ⟨rfl, HB6.out⟩
end Go.Proofs.YtafdijcolponjaaDoor
