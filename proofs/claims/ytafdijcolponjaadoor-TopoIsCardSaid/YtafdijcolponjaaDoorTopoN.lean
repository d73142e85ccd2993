/- TopoIs returns true for every input. Condition: where the table lies. -/
import Derived.Test.YtafdijcolponjaaDoorTopoM
namespace Go.Proofs.YtafdijcolponjaaDoor
open Go.RowKit

theorem rowI_wf {k : IntKind} {w : World} {a : Option Addr} {len cap : Nat} {zs : List Int} (h : IsRow k w a len cap zs) : ∀ x ∈ zs, (Lit.int k x).wf = true := by
  rcases h with ⟨-, -, -, rfl⟩ | ⟨x, -, -, -, -, -, h⟩
  · simp
  · exact h
set_option maxRecDepth 20000 in
set_option maxHeartbeats 2000000 in
theorem tis_walk (a1 : Option Addr) (len1 cap1 : Nat) (z1 : List Int) (a2 : Option Addr) (len2 cap2 : Nat) (z2 : Nat → Nat → Int) (w : World)
    (h1 : IsRow .i64 w a1 len1 cap1 z1) (h2 : IsRowS 2 w a2 len2 cap2 z2) (hT : TabIs w) :
    Calls Tryd.prog 12 #[.slice a1 len1 cap1, .slice a2 len2 cap2] w (YesEnds w) := by
  have HT := Lib.hid hT
  have hwf := rowS_wf h2
  have hwi := rowI_wf h1
  have hsrc := fun k (hk : k ≤ len1) => h1.src hk
  have hlen : len1 ≤ cap1 ∧ cap1 ≤ 9223372036854775807 := by
    have := (hsrc len1 (Nat.le_refl _)).2.2
    unfold maxLen at this
    exact ⟨this.1, by omega⟩
  have HI2 := Lib.hid h2
  have hm60 : fewN len2 ≤ 60 := Nat.min_le_right _ _
  have hml : fewN len2 ≤ len2 := Nat.min_le_left _ _
  have hff := fewN_few len2
  generalize hmm : fewN len2 = m at *
  have HMm := Lib.hid hmm
  have HWf := Lib.hid (fun i (hi : i < m) j (hj : j < 2) => hwf i (by omega) j hj)
  have HWi := Lib.hid hwi
  have HSr := Lib.hid hsrc
  obtain ⟨hl1, hl2⟩ := hlen
  clear hT h1 h2 hwf hml hwi hsrc hmm
  by_cases h30 : len1 ≤ 30
  · have hk30 : len1 ≤ 30 := h30
    have h30' : (len1 : Int) ≤ 30 := by omega
    have HIn := Lib.hid (ints_any a1 len1 cap1 (intl (z1.take len1)) w (HSr.out len1 (by omega)) (by omega))
    have HWo := Lib.hid (fun x (hx : x ∈ z1.take len1) => HWi.out x (List.mem_of_mem_take hx))
    generalize z1.take len1 = ord at *
    clear h30
    go_enter Tryd.func12, Tryd.ntmps12
    go_wp2_with fail
    go_fit HIn.out
    rintro e w0 ⟨g0, c0, rfl, hown0, hB0⟩
    obtain ⟨ad0, cc0, hv0, hs0⟩ := src_list hown0
    cases hv0
    have hFe := efew_any a2 len2 cap2 z2 w0 (HI2.out.below hB0 (Nat.le_refl _) (by decide))
    rw [HMm.out] at hFe
    have HFe := Lib.hid hFe
    have HB0 := Lib.hid hB0
    have HS0 := Lib.hid hs0
    clear hown0 hB0 hs0 hFe
    go_wp2_with fail
    go_fit HFe.out
    rintro e wa ⟨g, c, rfl, hown, hB1⟩
    have HFeR := Lib.hid (rowS_of_owns hown HWf.out)
    have HEa := Lib.hid (EdgesIn.of_owns hown)
    have HB1 := Lib.hid (HB0.out.trans (hB1.mono HB0.out.size))
    have hs1 := HS0.out.belowAll hB1 (Nat.le_refl _)
    have HIn2 := Lib.hid (ints_any _ _ _ _ wa hs1 (by omega))
    have HS1 := Lib.hid hs1
    clear hown hB1 hs1
    go_wp2_with fail
    go_fit HIn2.out
    rintro e wb ⟨g3, c3, rfl, hown3, hB3⟩
    obtain ⟨ad3, cc3, hv3, hs3⟩ := src_list hown3
    cases hv3
    have hFe3 := efew_any (some ⟨g, 0, none⟩) m c z2 wb (HFeR.out.below hB3 (Nat.le_refl _) (by decide))
    rw [hff] at hFe3
    have HFe3 := Lib.hid hFe3
    have HB3 := Lib.hid (HB1.out.trans (hB3.mono HB1.out.size))
    have HS3 := Lib.hid hs3
    have HS4 := Lib.hid (HS1.out.belowAll hB3 (Nat.le_refl _))
    have HE3 := Lib.hid (HEa.out.below hB3 (Nat.le_refl _))
    clear hown3 hB3 hs3 hFe3
    go_wp2_with fail
    go_fit HFe3.out
    rintro e wc ⟨g4, c4, rfl, hown4, hB4⟩
    have HIs := Lib.hid (tis_any _ _ _ _ (some ⟨g4, 0, none⟩) m c4 z2 wc (HS3.out.belowAll hB4 (Nat.le_refl _)) HWo.out (EdgesIn.of_owns hown4))
    have HB4 := Lib.hid (HB3.out.trans (hB4.mono HB3.out.size))
    have HS5 := Lib.hid (HS4.out.belowAll hB4 (Nat.le_refl _))
    have HE5 := Lib.hid (HE3.out.below hB4 (Nat.le_refl _))
    clear hown4 hB4
    go_wp2_with fail
    go_fit HIs.out
    rintro e wd ⟨rfl, hB5⟩
    have HRi := Lib.hid (ris_any _ _ _ _ (some ⟨g, 0, none⟩) m c z2 wd (HS5.out.belowAll hB5 (Nat.le_refl _)) (HE5.out.below hB5 (Nat.le_refl _)))
    have HB5 := Lib.hid (HB4.out.trans (hB5.mono HB4.out.size))
    clear hB5
    generalize isT ord z2 m = q at *
    have hqq : (q == q) = true := by simp
    go_wp2_with fail
    go_fit HRi.out
    rintro e we ⟨rfl, hB6⟩
    have HB6 := Lib.hid (HB5.out.trans (hB6.mono HB5.out.size))
    clear hB6
    have HW := Lib.hid (tworks_any we (tab_below HT.out HB6.out (Nat.le_refl _)))
    go_wp2_with fail
    go_fit HW.out
    rintro e wz ⟨rfl, hB9⟩
    have HB9 := Lib.hid (HB6.out.trans (hB9.mono HB6.out.size))
    clear hB9
    go_wp2_with fail
    go_ret
    exact ⟨rfl, HB9.out⟩
  · have hk30 : 30 ≤ len1 := by omega
    have h30' : ¬ (len1 : Int) ≤ 30 := by omega
    have HIn := Lib.hid (ints_any a1 30 cap1 (intl (z1.take 30)) w (HSr.out 30 (by omega)) (by omega))
    have HWo := Lib.hid (fun x (hx : x ∈ z1.take 30) => HWi.out x (List.mem_of_mem_take hx))
    generalize z1.take 30 = ord at *
    clear h30
    go_enter Tryd.func12, Tryd.ntmps12
    go_wp2_with fail
    go_fit HIn.out
    rintro e w0 ⟨g0, c0, rfl, hown0, hB0⟩
    obtain ⟨ad0, cc0, hv0, hs0⟩ := src_list hown0
    cases hv0
    have hFe := efew_any a2 len2 cap2 z2 w0 (HI2.out.below hB0 (Nat.le_refl _) (by decide))
    rw [HMm.out] at hFe
    have HFe := Lib.hid hFe
    have HB0 := Lib.hid hB0
    have HS0 := Lib.hid hs0
    clear hown0 hB0 hs0 hFe
    go_wp2_with fail
    go_fit HFe.out
    rintro e wa ⟨g, c, rfl, hown, hB1⟩
    have HFeR := Lib.hid (rowS_of_owns hown HWf.out)
    have HEa := Lib.hid (EdgesIn.of_owns hown)
    have HB1 := Lib.hid (HB0.out.trans (hB1.mono HB0.out.size))
    have hs1 := HS0.out.belowAll hB1 (Nat.le_refl _)
    have HIn2 := Lib.hid (ints_any _ _ _ _ wa hs1 (by omega))
    have HS1 := Lib.hid hs1
    clear hown hB1 hs1
    go_wp2_with fail
    go_fit HIn2.out
    rintro e wb ⟨g3, c3, rfl, hown3, hB3⟩
    obtain ⟨ad3, cc3, hv3, hs3⟩ := src_list hown3
    cases hv3
    have hFe3 := efew_any (some ⟨g, 0, none⟩) m c z2 wb (HFeR.out.below hB3 (Nat.le_refl _) (by decide))
    rw [hff] at hFe3
    have HFe3 := Lib.hid hFe3
    have HB3 := Lib.hid (HB1.out.trans (hB3.mono HB1.out.size))
    have HS3 := Lib.hid hs3
    have HS4 := Lib.hid (HS1.out.belowAll hB3 (Nat.le_refl _))
    have HE3 := Lib.hid (HEa.out.below hB3 (Nat.le_refl _))
    clear hown3 hB3 hs3 hFe3
    go_wp2_with fail
    go_fit HFe3.out
    rintro e wc ⟨g4, c4, rfl, hown4, hB4⟩
    have HIs := Lib.hid (tis_any _ _ _ _ (some ⟨g4, 0, none⟩) m c4 z2 wc (HS3.out.belowAll hB4 (Nat.le_refl _)) HWo.out (EdgesIn.of_owns hown4))
    have HB4 := Lib.hid (HB3.out.trans (hB4.mono HB3.out.size))
    have HS5 := Lib.hid (HS4.out.belowAll hB4 (Nat.le_refl _))
    have HE5 := Lib.hid (HE3.out.below hB4 (Nat.le_refl _))
    clear hown4 hB4
    go_wp2_with fail
    go_fit HIs.out
    rintro e wd ⟨rfl, hB5⟩
    have HRi := Lib.hid (ris_any _ _ _ _ (some ⟨g, 0, none⟩) m c z2 wd (HS5.out.belowAll hB5 (Nat.le_refl _)) (HE5.out.below hB5 (Nat.le_refl _)))
    have HB5 := Lib.hid (HB4.out.trans (hB5.mono HB4.out.size))
    clear hB5
    generalize isT ord z2 m = q at *
    have hqq : (q == q) = true := by simp
    go_wp2_with fail
    go_fit HRi.out
    rintro e we ⟨rfl, hB6⟩
    have HB6 := Lib.hid (HB5.out.trans (hB6.mono HB5.out.size))
    clear hB6
    have HW := Lib.hid (tworks_any we (tab_below HT.out HB6.out (Nat.le_refl _)))
    go_wp2_with fail
    go_fit HW.out
    rintro e wz ⟨rfl, hB9⟩
    have HB9 := Lib.hid (HB6.out.trans (hB9.mono HB6.out.size))
    clear hB9
    go_wp2_with fail
    go_ret
    exact ⟨rfl, HB9.out⟩
end Go.Proofs.YtafdijcolponjaaDoor
