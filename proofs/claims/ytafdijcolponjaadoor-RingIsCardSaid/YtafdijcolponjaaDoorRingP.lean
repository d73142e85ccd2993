/- RingIs returns true for every input. Condition: where the table lies. -/
import Derived.Test.YtafdijcolponjaaDoorRingO
namespace Go.Proofs.YtafdijcolponjaaDoor
open Go.RowKit

theorem rowI_wf' {k : IntKind} {w : World} {a : Option Addr} {len cap : Nat} {zs : List Int} (h : IsRow k w a len cap zs) : ∀ x ∈ zs, (Lit.int k x).wf = true := by
  rcases h with ⟨-, -, -, rfl⟩ | ⟨x, -, -, -, -, -, h⟩
  · simp
  · exact h
set_option maxRecDepth 20000 in
set_option maxHeartbeats 4000000 in
theorem rgis_walk (n : Int) (a1 : Option Addr) (len1 cap1 : Nat) (z1 : List Int) (a2 : Option Addr) (len2 cap2 : Nat) (z2 : Nat → Nat → Int) (w : World)
    (_hn : (Lit.int .i64 n).wf = true) (h1 : IsRow .i64 w a1 len1 cap1 z1) (h2 : IsRowS 2 w a2 len2 cap2 z2) (hT : TabIs w) :
    Calls Tryd.prog 19 #[.int .i64 n, .slice a1 len1 cap1, .slice a2 len2 cap2] w (YesEnds w) := by
  have HT := Lib.hid hT
  have hwf := rowS_wf h2
  have hwi := rowI_wf' h1
  have hsrc := fun k (hk : k ≤ len1) => h1.src hk
  have hlen : len1 ≤ cap1 ∧ cap1 ≤ 9223372036854775807 := by
    have := (hsrc len1 (Nat.le_refl _)).2.2
    unfold maxLen at this
    exact ⟨this.1, by omega⟩
  have HFw := Lib.hid (rfew_any n a2 len2 cap2 z2 w h2)
  have hm25 : few25 len2 ≤ 25 := Nat.min_le_right _ _
  have hml : few25 len2 ≤ len2 := Nat.min_le_left _ _
  have hff : fewN (few25 len2) = few25 len2 := Nat.min_eq_left (by omega)
  generalize small9 n = nn at *
  generalize few25 len2 = m at *
  have HWf := Lib.hid (fun i (hi : i < m) j (hj : j < 2) => hwf i (by omega) j hj)
  have HWi := Lib.hid hwi
  have HSr := Lib.hid hsrc
  have HFf := Lib.hid hff
  obtain ⟨hl1, hl2⟩ := hlen
  clear hT h1 h2 _hn hwf hml hwi hsrc hff
  by_cases h30 : len1 ≤ 30
  · have hk30 : len1 ≤ 30 := h30
    have h30' : (len1 : Int) ≤ 30 := by omega
    have hlx : (z1.take len1).length = len1 := by
      have h : (intl (z1.take len1)).length = len1 * 1 := (HSr.out len1 (by omega)).1
      rw [Nat.mul_one] at h
      rw [← h]; simp [intl]
    have hsr := HSr.out len1 (by omega)
    have HWo := Lib.hid (fun x (hx : x ∈ z1.take len1) => HWi.out x (List.mem_of_mem_take hx))
    have HSx := Lib.hid (show Src w a1 len1 cap1 1 (intl (z1.take len1)) from hsr)
    have hK30 : len1 ≤ 30 := by omega
    generalize z1.take len1 = x at *
    clear hsr h30
    go_enter Tryd.func19, Tryd.ntmps19
    go_wp2_with fail
    go_fit HFw.out
    rintro e wa ⟨g, c, rfl, hown, hB1⟩
    have HIn := Lib.hid (ints_any a1 len1 cap1 (intl x) wa (HSx.out.belowAll hB1 (Nat.le_refl _)) (by omega))
    have HRa := Lib.hid (rowS_of_owns hown HWf.out)
    have HEa := Lib.hid (EdgesIn.of_owns hown)
    have HB1 := Lib.hid hB1
    clear hown hB1
    go_wp2_with fail
    go_fit HIn.out
    rintro e wb ⟨g1, c1, rfl, hown, hB2⟩
    obtain ⟨ax, cx, hvx, hsx⟩ := src_list hown
    cases hvx
    have HSb := Lib.hid hsx
    have HIn2 := Lib.hid (ints_any (some ⟨g1, 0, none⟩) len1 c1 (intl x) wb hsx (by omega))
    have HRb := Lib.hid (HRa.out.below hB2 (Nat.le_refl _) (by decide))
    have HEb := Lib.hid (HEa.out.below hB2 (Nat.le_refl _))
    have HB2 := Lib.hid (HB1.out.trans (hB2.mono HB1.out.size))
    clear hown hB2 hsx
    go_wp2_with fail
    go_fit HIn2.out
    rintro e wc ⟨g2, c2, rfl, hown, hB3⟩
    obtain ⟨ax, cx, hvx, hsx⟩ := src_list hown
    cases hvx
    have HFe := efew_any (some ⟨g, 0, none⟩) m c z2 wc (HRb.out.below hB3 (Nat.le_refl _) (by decide))
    rw [HFf.out] at HFe
    have HFe := Lib.hid HFe
    have HSc := Lib.hid (HSb.out.belowAll hB3 (Nat.le_refl _))
    have HSy := Lib.hid hsx
    have HEc := Lib.hid (HEb.out.below hB3 (Nat.le_refl _))
    have HB3 := Lib.hid (HB2.out.trans (hB3.mono HB2.out.size))
    clear hown hB3 hsx
    go_wp2_with fail
    go_fit HFe.out
    rintro e wd ⟨g3, c3, rfl, hown, hB4⟩
    have hB4' := HB3.out.trans (hB4.mono HB3.out.size)
    have hI1 := rgis_any nn (some ⟨g2, 0, none⟩) c2 x (some ⟨g3, 0, none⟩) m c3 z2 wd (by rw [hlx]; exact HSy.out.belowAll hB4 (Nat.le_refl _)) HWo.out (EdgesIn.of_owns hown) (tab_below HT.out hB4' (Nat.le_refl _))
    unfold RgIsEnds at hI1
    rw [hlx] at hI1
    have HSd := Lib.hid (HSc.out.belowAll hB4 (Nat.le_refl _))
    have HEd := Lib.hid (HEc.out.below hB4 (Nat.le_refl _))
    have HI2 : Hid (∀ W, Src W (some ⟨g1, 0, none⟩) len1 c1 1 (intl x) → EdgesIn W (some ⟨g, 0, none⟩) m z2 → Calls Tryd.prog 84 #[.int .i64 nn, .slice (some ⟨g1, 0, none⟩) len1 c1, .slice (some ⟨g, 0, none⟩) m c] W fun e w' => e = .returned (.bool (ofB nn z2 m && ringB x (ofZ nn.toNat z2 m))) ∧ Below W.heap.size W w') := fun W hsW hEW => by
      have h := dis_any nn (some ⟨g1, 0, none⟩) c1 x (some ⟨g, 0, none⟩) m c z2 W (by rw [hlx]; exact hsW) hEW
      unfold RgIsEnds at h
      rw [hlx] at h
      exact h
    generalize (ofB nn z2 m && ringB x (ofZ nn.toNat z2 m)) = bb at *
    have HI1 := Lib.hid hI1
    have HB4 := Lib.hid hB4'
    clear hown hB4 hB4' hI1
    go_wp2_with fail
    go_fit HI1.out
    rintro e we ⟨rfl, hB⟩
    have HI2e := Lib.hid (HI2.out we (HSd.out.belowAll hB (Nat.le_refl _)) (HEd.out.below hB (Nat.le_refl _)))
    have HB5 := Lib.hid (HB4.out.trans (hB.mono HB4.out.size))
    clear hB
    go_wp2_with fail
    go_fit HI2e.out
    rintro e wf ⟨rfl, hB⟩
    have hB6 := HB5.out.trans (hB.mono HB5.out.size)
    have HW := Lib.hid (rgworks_any wf (tab_below HT.out hB6 (Nat.le_refl _)))
    have HB6 := Lib.hid hB6
    have hbb : (bb == bb) = true := by cases bb <;> rfl
    clear hB hB6
    go_wp2_with fail
    go_fit HW.out
    rintro e wg ⟨rfl, hB⟩
    have HB7 := Lib.hid (HB6.out.trans (hB.mono HB6.out.size))
    clear hB
    go_wp2_with fail
    go_ret
    exact ⟨rfl, HB7.out⟩
  · have hk30 : 30 ≤ len1 := by omega
    have h30' : ¬ (len1 : Int) ≤ 30 := by omega
    have hlx : (z1.take 30).length = 30 := by
      have h : (intl (z1.take 30)).length = 30 * 1 := (HSr.out 30 (by omega)).1
      rw [Nat.mul_one] at h
      rw [← h]; simp [intl]
    have hsr := HSr.out 30 (by omega)
    have HWo := Lib.hid (fun x (hx : x ∈ z1.take 30) => HWi.out x (List.mem_of_mem_take hx))
    have HSx := Lib.hid (show Src w a1 30 cap1 1 (intl (z1.take 30)) from hsr)
    have hK30 : 30 ≤ 30 := by omega
    generalize z1.take 30 = x at *
    clear hsr h30
    go_enter Tryd.func19, Tryd.ntmps19
    go_wp2_with fail
    go_fit HFw.out
    rintro e wa ⟨g, c, rfl, hown, hB1⟩
    have HIn := Lib.hid (ints_any a1 30 cap1 (intl x) wa (HSx.out.belowAll hB1 (Nat.le_refl _)) (by omega))
    have HRa := Lib.hid (rowS_of_owns hown HWf.out)
    have HEa := Lib.hid (EdgesIn.of_owns hown)
    have HB1 := Lib.hid hB1
    clear hown hB1
    go_wp2_with fail
    go_fit HIn.out
    rintro e wb ⟨g1, c1, rfl, hown, hB2⟩
    obtain ⟨ax, cx, hvx, hsx⟩ := src_list hown
    cases hvx
    have HSb := Lib.hid hsx
    have HIn2 := Lib.hid (ints_any (some ⟨g1, 0, none⟩) 30 c1 (intl x) wb hsx (by omega))
    have HRb := Lib.hid (HRa.out.below hB2 (Nat.le_refl _) (by decide))
    have HEb := Lib.hid (HEa.out.below hB2 (Nat.le_refl _))
    have HB2 := Lib.hid (HB1.out.trans (hB2.mono HB1.out.size))
    clear hown hB2 hsx
    go_wp2_with fail
    go_fit HIn2.out
    rintro e wc ⟨g2, c2, rfl, hown, hB3⟩
    obtain ⟨ax, cx, hvx, hsx⟩ := src_list hown
    cases hvx
    have HFe := efew_any (some ⟨g, 0, none⟩) m c z2 wc (HRb.out.below hB3 (Nat.le_refl _) (by decide))
    rw [HFf.out] at HFe
    have HFe := Lib.hid HFe
    have HSc := Lib.hid (HSb.out.belowAll hB3 (Nat.le_refl _))
    have HSy := Lib.hid hsx
    have HEc := Lib.hid (HEb.out.below hB3 (Nat.le_refl _))
    have HB3 := Lib.hid (HB2.out.trans (hB3.mono HB2.out.size))
    clear hown hB3 hsx
    go_wp2_with fail
    go_fit HFe.out
    rintro e wd ⟨g3, c3, rfl, hown, hB4⟩
    have hB4' := HB3.out.trans (hB4.mono HB3.out.size)
    have hI1 := rgis_any nn (some ⟨g2, 0, none⟩) c2 x (some ⟨g3, 0, none⟩) m c3 z2 wd (by rw [hlx]; exact HSy.out.belowAll hB4 (Nat.le_refl _)) HWo.out (EdgesIn.of_owns hown) (tab_below HT.out hB4' (Nat.le_refl _))
    unfold RgIsEnds at hI1
    rw [hlx] at hI1
    have HSd := Lib.hid (HSc.out.belowAll hB4 (Nat.le_refl _))
    have HEd := Lib.hid (HEc.out.below hB4 (Nat.le_refl _))
    have HI2 : Hid (∀ W, Src W (some ⟨g1, 0, none⟩) 30 c1 1 (intl x) → EdgesIn W (some ⟨g, 0, none⟩) m z2 → Calls Tryd.prog 84 #[.int .i64 nn, .slice (some ⟨g1, 0, none⟩) 30 c1, .slice (some ⟨g, 0, none⟩) m c] W fun e w' => e = .returned (.bool (ofB nn z2 m && ringB x (ofZ nn.toNat z2 m))) ∧ Below W.heap.size W w') := fun W hsW hEW => by
      have h := dis_any nn (some ⟨g1, 0, none⟩) c1 x (some ⟨g, 0, none⟩) m c z2 W (by rw [hlx]; exact hsW) hEW
      unfold RgIsEnds at h
      rw [hlx] at h
      exact h
    generalize (ofB nn z2 m && ringB x (ofZ nn.toNat z2 m)) = bb at *
    have HI1 := Lib.hid hI1
    have HB4 := Lib.hid hB4'
    clear hown hB4 hB4' hI1
    go_wp2_with fail
    go_fit HI1.out
    rintro e we ⟨rfl, hB⟩
    have HI2e := Lib.hid (HI2.out we (HSd.out.belowAll hB (Nat.le_refl _)) (HEd.out.below hB (Nat.le_refl _)))
    have HB5 := Lib.hid (HB4.out.trans (hB.mono HB4.out.size))
    clear hB
    go_wp2_with fail
    go_fit HI2e.out
    rintro e wf ⟨rfl, hB⟩
    have hB6 := HB5.out.trans (hB.mono HB5.out.size)
    have HW := Lib.hid (rgworks_any wf (tab_below HT.out hB6 (Nat.le_refl _)))
    have HB6 := Lib.hid hB6
    have hbb : (bb == bb) = true := by cases bb <;> rfl
    clear hB hB6
    go_wp2_with fail
    go_fit HW.out
    rintro e wg ⟨rfl, hB⟩
    have HB7 := Lib.hid (HB6.out.trans (hB.mono HB6.out.size))
    clear hB
    go_wp2_with fail
    go_ret
    exact ⟨rfl, HB7.out⟩
end Go.Proofs.YtafdijcolponjaaDoor
