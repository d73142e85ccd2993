/- CloseStays returns true for every input. Condition: where the table lies. -/
import Derived.Test.YtafdijcolponjaaDoorCloseI
namespace Go.Proofs.YtafdijcolponjaaDoor
open Go.RowKit

set_option maxRecDepth 20000 in
set_option maxHeartbeats 2000000 in
theorem cstays_walk (n : Int) (a1 : Option Addr) (len1 cap1 : Nat) (z1 : Nat → Nat → Int) (w : World)
    (_hn : (Lit.int .i64 n).wf = true) (h1 : IsRowS 2 w a1 len1 cap1 z1) (hT : TabIs w) :
    Calls Tryd.prog 16 #[.int .i64 n, .slice a1 len1 cap1] w (YesEnds w) := by
  have HT := Lib.hid hT
  have HW := Lib.hid (cworks_any w hT)
  have HR := Lib.hid h1
  clear hT h1 _hn
  go_enter Tryd.func16, Tryd.ntmps16
  go_wp2_with fail
  go_fit HW.out
  rintro e w0 ⟨rfl, hB0⟩
  have HSm := Lib.hid (small_any n w0)
  have HFe := Lib.hid (efew_any a1 len1 cap1 z1 w0 (HR.out.below hB0 (Nat.le_refl _) (by decide)))
  have HB0 := Lib.hid hB0
  generalize smallN n = nn at *
  generalize fewN len1 = m at *
  clear hB0
  go_wp2_with fail
  go_fit HSm.out
  rintro e w' ⟨rfl, rfl⟩
  go_wp2_with fail
  go_fit HFe.out
  rintro e wa ⟨g, c, rfl, hown, hB1⟩
  have hB1' := HB0.out.trans (hB1.mono HB0.out.size)
  have HO := Lib.hid (cof_any nn m c (some ⟨g, 0, none⟩) z1 wa (EdgesIn.of_owns hown) (tab_below HT.out hB1' (Nat.le_refl _)))
  have HEa := Lib.hid (EdgesIn.of_owns hown)
  have HB1 := Lib.hid hB1'
  clear hown hB1 hB1'
  go_wp2_with fail
  go_fit HO.out
  rintro e wb ⟨hB, (⟨hyes, v, rfl, hown⟩ | ⟨hno, rfl⟩)⟩
  · obtain ⟨q, rfl, hq, hM⟩ := of_yes hyes
    rw [Int.toNat_natCast] at hown
    have hB2 := HB1.out.trans (hB.mono HB1.out.size)
    have hEb := HEa.out.below hB (Nat.le_refl _)
    have hL := ofZ_inr hM
    have hK := closeL_twice hL
    have hKT := closeL_thin hL
    have hYK := ofB_zL hq (closeL_inr (n := q) (L := ofZ q z1 m))
    have hYT := ofB_zL hq (thinL_inr hL)
    have hTh := fun W hE hT => thin_any q m c (some ⟨g, 0, none⟩) z1 W hE hT
    rw [Int.toNat_natCast] at hTh
    generalize closeL q (ofZ q z1 m) q = K at *
    generalize thinL q (ofZ q z1 m) = T at *
    obtain ⟨ad, cx, rfl⟩ := owns_slice hown
    have hO2 := cof_any q K.length cx ad (zL K) wb (edgesIn_owns hown) (tab_below HT.out hB2 (Nat.le_refl _))
    rw [Int.toNat_natCast, hK] at hO2
    have HO2 := Lib.hid hO2
    have HX := Lib.hid hown
    have HB2 := Lib.hid hB2
    have HEb := Lib.hid hEb
    have HYes := Lib.hid hyes
    have HYK := Lib.hid hYK
    have HYT := Lib.hid hYT
    have HKT := Lib.hid hKT
    have HTh := Lib.hid hTh
    clear hB hyes hM hown hB2 hEb hL hK hKT hYK hYT hTh hO2 HEa
    go_wp2_with fail
    go_fit HO2.out
    rintro e wc ⟨hB, (⟨-, v, rfl, hown⟩ | ⟨hno, -⟩)⟩
    · obtain ⟨ad2, cx2, rfl⟩ := owns_slice hown
      have hB3 := HB2.out.trans (hB.mono HB2.out.size)
      have hEc := HEb.out.below hB (Nat.le_refl _)
      have HX3 := Lib.hid (owns_of_heap HX.out (w' := wc) fun p hp => hB.block p (owns_lt HX.out p hp))
      have HY3 := Lib.hid hown
      have HTT := Lib.hid (HTh.out wc hEc (tab_below HT.out hB3 (Nat.le_refl _)))
      have HB3 := Lib.hid hB3
      clear hB hown hB3 hEc HX HEb
      go_wp2_with fail
      go_fit HTT.out
      rintro e wd ⟨hB, (⟨-, v, rfl, hown⟩ | ⟨hno, -⟩)⟩
      · obtain ⟨ad3, cx3, rfl⟩ := owns_slice hown
        have hB4 := HB3.out.trans (hB.mono HB3.out.size)
        have hO4 := cof_any q T.length cx3 ad3 (zL T) wd (edgesIn_owns hown) (tab_below HT.out hB4 (Nat.le_refl _))
        rw [Int.toNat_natCast, HKT.out] at hO4
        have HO4 := Lib.hid hO4
        have HX4 := Lib.hid (owns_of_heap HX3.out (w' := wd) fun p hp => hB.block p (owns_lt HX3.out p hp))
        have HY4 := Lib.hid (owns_of_heap HY3.out (w' := wd) fun p hp => hB.block p (owns_lt HY3.out p hp))
        have HB4 := Lib.hid hB4
        clear hB hown hB4 hO4 HX3 HY3
        go_wp2_with fail
        go_fit HO4.out
        rintro e we ⟨hB, (⟨-, v, rfl, hown⟩ | ⟨hno, -⟩)⟩
        · obtain ⟨ad4, cx4, rfl⟩ := owns_slice hown
          have hx := owns_of_heap HX4.out (w' := we) fun p hp => hB.block p (owns_lt HX4.out p hp)
          have hy := owns_of_heap HY4.out (w' := we) fun p hp => hB.block p (owns_lt HY4.out p hp)
          have HSM := Lib.hid (sameE_any _ _ _ _ _ _ _ _ we (owns_base hx fun _ _ => Nat.zero_le _) (owns_base hy fun _ _ => Nat.zero_le _))
          have HX5 := Lib.hid hx
          have HZ5 := Lib.hid hown
          have HB5 := Lib.hid (HB4.out.trans (hB.mono HB4.out.size))
          clear hB hown hx hy HX4 HY4
          go_wp2_with fail
          go_fit HSM.out
          rintro e wf ⟨rfl, hS⟩
          rw [sameE_self]
          have HSM2 := Lib.hid (sameE_any _ _ _ _ _ _ _ _ wf (owns_base (owns_of_heap HX5.out (w' := wf) fun p hp => (hS.below (B := we.heap.size)).block p (owns_lt HX5.out p hp)) fun _ _ => Nat.zero_le _) (owns_base (owns_of_heap HZ5.out (w' := wf) fun p hp => (hS.below (B := we.heap.size)).block p (owns_lt HZ5.out p hp)) fun _ _ => Nat.zero_le _))
          have HB6 := Lib.hid (HB5.out.trans hS.below)
          clear hS
          go_wp2_with fail
          go_fit HSM2.out
          rintro e wg ⟨rfl, hS⟩
          rw [sameE_self]
          have HB7 := Lib.hid (HB6.out.trans hS.below)
          clear hS
          go_wp2_with fail
          go_ret
          exact ⟨rfl, HB7.out⟩
        · exact absurd (HYT.out.symm.trans hno) (by decide)
      · exact absurd (HYes.out.symm.trans hno) (by decide)
    · exact absurd (HYK.out.symm.trans hno) (by decide)
  · have HB2 := Lib.hid (HB1.out.trans (hB.mono HB1.out.size))
    clear hB hno
    go_wp2_with fail
    go_ret
    exact ⟨rfl, HB2.out⟩
end Go.Proofs.YtafdijcolponjaaDoor
