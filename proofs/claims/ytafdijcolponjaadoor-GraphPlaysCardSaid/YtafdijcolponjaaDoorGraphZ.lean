/- GraphPlays returns true for every input. Condition: where the table lies. -/
import Derived.Test.YtafdijcolponjaaDoorGraphY
import Derived.Test.YtafdijcolponjaaDoorAmong
import Derived.Deep.CutBlock
namespace Go.Proofs.YtafdijcolponjaaDoor
open Go.RowKit

set_option maxRecDepth 100000 in
set_option maxHeartbeats 4000000 in
theorem gplays_walk (n : Int) (a1 : Option Addr) (len1 cap1 : Nat) (z1 : Nat → Nat → Int) (a2 : Option Addr) (len2 cap2 : Nat) (z2 : Nat → Nat → Int) (w : World)
    (_hn : (Lit.int .i64 n).wf = true) (h1 : IsRowS 2 w a1 len1 cap1 z1) (h2 : IsRowS 3 w a2 len2 cap2 z2) (hT : TabIs w) :
    Calls Tryd.prog 9 #[.int .i64 n, .slice a1 len1 cap1, .slice a2 len2 cap2] w (YesEnds w) := by
  have HT := Lib.hid hT
  have HI2 := Lib.hid h2
  have hl2 := h2.len_le
  have hwf := rowS_wf h1
  have HSm := Lib.hid (small_any n w)
  have HFe := Lib.hid (efew_any a1 len1 cap1 z1 w h1)
  have hm60 : fewN len1 ≤ 60 := Nat.min_le_right _ _
  have hml : fewN len1 ≤ len1 := Nat.min_le_left _ _
  have hff := fewN_few len1
  generalize smallN n = nn at *
  generalize fewN len1 = m at *
  have HWf := Lib.hid (fun i (hi : i < m) j (hj : j < 2) => hwf i (by omega) j hj)
  clear hT h1 h2 _hn hwf hml
  go_enter Tryd.func9, Tryd.ntmps9
  go_wp2_with fail
  go_fit HSm.out
  rintro e w' ⟨rfl, rfl⟩
  go_wp2_with fail
  go_fit HFe.out
  rintro e wa ⟨g, c, rfl, hown, hB1⟩
  have HFe2 := efew_any (some ⟨g, 0, none⟩) m c z1 wa (rowS_of_owns hown HWf.out)
  rw [hff] at HFe2
  have HFe2 := Lib.hid HFe2
  have HEa := Lib.hid (EdgesIn.of_owns hown)
  have HB1 := Lib.hid hB1
  clear hown hB1 hff
  go_wp2_with fail
  go_fit HFe2.out
  rintro e wb ⟨g2, c2, rfl, hown, hB2⟩
  have HO := Lib.hid (gr_of nn (some ⟨g2, 0, none⟩) m c2 z1 wb (EdgesIn.of_owns hown))
  have HEb := Lib.hid (HEa.out.below hB2 (Nat.le_refl _))
  have HB2 := Lib.hid (HB1.out.trans (hB2.mono HB1.out.size))
  clear hown hB2
  go_wp2_with fail
  go_fit HO.out
  rintro e wc (⟨hyes, b, F, rfl, hG, hF, hB3⟩ | ⟨hno, rfl, hB3⟩)
  · have hMay := rg_may nn (some ⟨g, 0, none⟩) m c z1 wc (HEb.out.below hB3 (Nat.le_refl _))
    rw [hyes] at hMay
    have hnn : 0 ≤ nn ∧ nn ≤ 500 := by
      unfold ofB at hyes
      rw [Bool.and_eq_true] at hyes
      exact of_decide_eq_true hyes.1
    obtain ⟨q, rfl⟩ := Int.eq_ofNat_of_zero_le hnn.1
    rw [Int.toNat_natCast] at hG
    have hq5 : q ≤ 500 := by omega
    have HMy := Lib.hid hMay
    have HROf := Lib.hid (rg_of q (some ⟨g, 0, none⟩) m c z1 wc (HEb.out.below hB3 (Nat.le_refl _)) (by omega))
    have hz2 := HB2.out.size
    have HG := Lib.hid hG
    have HF := Lib.hid (fun k hk => Nat.le_trans hz2 (hF k hk) : ∀ k ∈ F, w.heap.size ≤ k)
    have HB3 := Lib.hid (HB2.out.trans (hB3.mono hz2))
    generalize ofZ q z1 m = L at *
    clear hG hF hB3 hyes hMay hnn
    go_wp2_with fail
    go_fit HMy.out
    rintro e w' ⟨rfl, rfl⟩
    go_wp2_with fail
    go_fit HROf.out
    rintro e wd ⟨r, G, rfl, hR, hGr, hB4⟩
    have hG4 := HG.out.below hB4 (Nat.le_refl _)
    have hz3 := HB3.out.size
    have hGX : GX w b r q 0 none F G L L wd := ⟨hG4, hR, fun k hk hg => by have h1 := HG.out.lt k hk; have h2 := hGr k hg; omega, HF.out, fun k hk => Nat.le_trans hz3 (hGr k hk), HB3.out.trans (hB4.mono hz3), fun u hu => by cases hu⟩
    have HGX := Lib.hid hGX
    have HLn := Lib.hid (gr_len b q F L wd hG4)
    clear hG4 hR hGr hB4 hGX
    go_wp2_with fail
    go_fit HLn.out
    rintro e w' ⟨rfl, rfl⟩
    go_wp2_with fail
    clear HLn HB3 HF HG HROf HMy HB2 HEb HO HB1 HEa HFe2 HFe HSm hz2 hz3
    go_loopw [10] (fun i wr => GPlayRel w b r q len2 i wr) (fun i _ => len2 - (intOf i).toNat)
    case atStart => exact ⟨0, F, G, L, Nat.zero_le _, rfl, 0, none, HGX.out⟩
    case round =>
      clear HGX
      obtain ⟨k, F6, G6, L6, hk, rfl, X, o, hgx⟩ := hrel
      have HGX := Lib.hid hgx
      clear hgx
      by_cases hlt : k < len2
      · by_cases h40 : k < 40
        · obtain ⟨xb, xo, rfl, hxb, hcell⟩ := (HI2.out.below HGX.out.bel (Nat.le_refl _) (by decide)).at (by decide) hlt
          have e0 := (hcell k hlt 0 (by decide)).1
          have e1 := (hcell k hlt 1 (by decide)).1
          have e2 := (hcell k hlt 2 (by decide)).1
          have hwf0 := (hcell k hlt 0 (by decide)).2
          have hwf2 := (hcell k hlt 2 (by decide)).2
          rw [← Nat.add_assoc] at e1 e2
          rw [Nat.add_zero] at e0
          clear hcell
          generalize z2 k 0 = x at *
          generalize z2 k 1 = y at *
          generalize z2 k 2 = z at *
          have hk0 : (0 : Int) ≤ (k : Int) := Int.natCast_nonneg _
          have hk1 : (k : Int) < (len2 : Int) := by omega
          have hk4 : (k : Int) < 40 := by omega
          go_wp2_with fail
          have HGXa := Lib.hid (HGX.out.alloc (.cells #[.int .i64 x, .int .i64 y, .int .i64 z] 69))
          generalize wr.alloc (.cells #[.int .i64 x, .int .i64 y, .int .i64 z] 69) = wa at *
          generalize wr.heap.size = p at *
          clear e0 e1 e2 HGX hxb wr
          obtain ⟨qx, -, -⟩ := HGXa.out.xo _ rfl
          have c1 : wa.cell? ⟨p, 1, none⟩ = some (.int .i64 y) := cell_at 1 qx rfl
          have c2 : wa.cell? ⟨p, 2, none⟩ = some (.int .i64 z) := cell_at 2 qx rfl
          have HAm := Lib.hid (among_any x 3 wa hwf0 (by decide) (by decide))
          clear qx
          go_fit HAm.out
          rintro e w' ⟨d, d0', d1', rfl, rfl⟩
          have hd3 : d = 0 ∨ d = 1 ∨ d = 2 := by omega
          clear HAm d0' d1'
          go_upto_block 2 with fail
          go_cut [12] (fun s12 wc => GPlayCut w b r q p (some (.cells #[.int .i64 x, .int .i64 y, .int .i64 z] 69)) s12 wc)
          case first =>
            rcases hd3 with rfl | rfl | rfl
            · have HP0 := Lib.hid (gr_put b q F6 L6 y z wa HGXa.out.gr)
              have HP1 := Lib.hid (fun W hW => rg_put r q G6 L6 y z W hW (by have := HGXa.out.gr.few; omega))
              generalize putV q L6 y z = pv at *
              generalize putL q L6 y z = L7 at *
              obtain ⟨pv1, pv2⟩ := pv
              unfold two at HP0 HP1
              have hp1 : (pv1 == pv1) = true := by simp
              have hp2 : (pv2 == pv2) = true := by simp
              go_wp2_with fail
              go_fit HP0.out
              intro e w6 he6
              obtain ⟨rfl, F7, hg7⟩ := HGXa.out.graph he6
              obtain ⟨qx, -, -⟩ := hg7.xo _ rfl
              have l1 : w6.cell? ⟨p, 1, none⟩ = some (.int .i64 y) := cell_at 1 qx rfl
              have l2 : w6.cell? ⟨p, 2, none⟩ = some (.int .i64 z) := cell_at 2 qx rfl
              have HP1' := Lib.hid (HP1.out w6 hg7.rf)
              have HG7 := Lib.hid hg7
              clear he6 hg7 qx
              go_wp2_with fail
              go_fit HP1'.out
              intro e w7 he7
              obtain ⟨rfl, G7, hg8⟩ := HG7.out.ref he7
              have HG8 := Lib.hid hg8
              clear he7 hg8 l1 l2
              go_wp2_with fail
              go_meet
              exact ⟨F7, G7, L7, rfl, HG8.out⟩
            · have HP0 := Lib.hid (gr_undo b q F6 L6 y wa.drew HGXa.out.drew.gr)
              have HP1 := Lib.hid (fun W hW => rg_undo r q G6 L6 y W hW)
              generalize undoC L6 y = uc at *
              generalize undoL L6 y = L7 at *
              have hu : (uc == uc) = true := by simp
              go_wp2_with fail
              go_region_held3 (fun w' => w'.cell? ⟨p, 1, none⟩ = some (.int .i64 y))
                (first
                  | exact m1
                  | exact l1
                  | exact c1
                  | fail)
                ((first
                  | (go_at_call 49
                     (with_reducible refine HP0.out.mono ?_)
                     intro e w6 he6
                     obtain ⟨rfl, F7, hg7⟩ := HGXa.out.drew.graph he6
                     obtain ⟨qx, -, -⟩ := hg7.xo _ rfl
                     have l1 : w6.cell? ⟨p, 1, none⟩ = some (.int .i64 y) := cell_at 1 qx rfl
                     have HP1' := Lib.hid (HP1.out w6 hg7.rf)
                     have HG7 := Lib.hid hg7
                     clear he6 hg7 qx)
                  | (go_at_call 54
                     (with_reducible refine HP1'.out.mono ?_)
                     intro e w7 he7
                     obtain ⟨rfl, G7, hg8⟩ := HG7.out.ref he7
                     obtain ⟨qx, -, -⟩ := hg8.xo _ rfl
                     have m1 : w7.cell? ⟨p, 1, none⟩ = some (.int .i64 y) := cell_at 1 qx rfl
                     have HG8 := Lib.hid hg8
                     clear he7 hg8 qx)
                  | fail))
              go_wp2_with fail
              go_meet
              exact ⟨F7, G7, L7, rfl, HG8.out⟩
            · obtain ⟨vr, hr1, hrow, -, -⟩ := HGXa.out.rf
              obtain ⟨av, kv, rfl, hl1, hl2', -, -⟩ := hrow.form
              have r1 : wa.cell? ⟨r, 1, none⟩ = some (.slice av L6.length kv) := cell_at 1 hr1 rfl
              have HAm := Lib.hid (fun W => among_any z ((L6.length : Int) + 1) W hwf2 (by omega) (by have := HGXa.out.gr.few; omega))
              have hlen0 : (0 : Int) ≤ (L6.length : Int) := by omega
              have hlen1 : (L6.length : Int) ≤ 250000 := by have := HGXa.out.gr.few; omega
              have HR1 := Lib.hid r1
              have HC2 := Lib.hid c2
              clear hr1 hrow r1 c1 c2
              go_wp2_with fail
              refine region_tail 8 (by kernel_rfl) (by kernel_rfl) fun w3 hS => ?_
              have d1 := hS.cell HR1.out
              have d2 := hS.cell HC2.out
              have HS := Lib.hid hS
              have HAm' := Lib.hid (HAm.out w3)
              clear hS
              simp only [List.take_succ_cons, List.take_zero, List.drop_succ_cons, List.drop_zero]
              repeat still_step
              refine wpStill_nil ?_
              go_wp2_with fail
              go_fit HAm'.out
              rintro e w' ⟨d, d0', d1', rfl, rfl⟩
              have HG3 := Lib.hid (HGXa.out.same HS.out)
              have HP0 := Lib.hid (gr_undo b q F6 L6 d w3 HG3.out.gr)
              have HP1 := Lib.hid (fun W hW => rg_undo r q G6 L6 d W hW)
              generalize undoC L6 d = uc at *
              generalize undoL L6 d = L7 at *
              have hu : (uc == uc) = true := by simp
              clear d0' d1' d1 d2
              go_wp2_with fail
              go_fit HP0.out
              intro e w6 he6
              obtain ⟨rfl, F7, hg7⟩ := HG3.out.graph he6
              have HP1' := Lib.hid (HP1.out w6 hg7.rf)
              have HG7 := Lib.hid hg7
              clear he6 hg7
              go_wp2_with fail
              go_fit HP1'.out
              intro e w7 he7
              obtain ⟨rfl, G7, hg8⟩ := HG7.out.ref he7
              have HG8 := Lib.hid hg8
              clear he7 hg8
              go_wp2_with fail
              go_meet
              exact ⟨F7, G7, L7, rfl, HG8.out⟩
          case rest =>
            clear HGXa c1 c2 hd3 wa
            obtain ⟨F7, G7, L7, rfl, hgx⟩ := hcut
            have HGX := Lib.hid hgx.drew
            obtain ⟨qx, -, -⟩ := hgx.xo _ rfl
            have q1 : wc.cell? ⟨p, 1, none⟩ = some (.int .i64 y) := cell_at 1 qx rfl
            have q2 : wc.cell? ⟨p, 2, none⟩ = some (.int .i64 z) := cell_at 2 qx rfl
            obtain ⟨vr, hr1, hrow, -, -⟩ := hgx.rf
            obtain ⟨av, kv, rfl, -, -, -, -⟩ := hrow.form
            have q3 : wc.cell? ⟨r, 1, none⟩ = some (.slice av L7.length kv) := cell_at 1 hr1 rfl
            have hpw := lt_of_block qx
            have hrw := lt_of_block hr1
            have H1 := gr_has b q F7 L7 y z wc.drew HGX.out.gr
            have H2 := rghas_any r q G7 L7 y z wc.drew HGX.out.rf
            generalize hasR L7 y z = hb at H1 H2
            have HH1 := Lib.hid H1
            have HH2 := Lib.hid H2
            have HMk := Lib.hid (gr_mark b q F7 L7 wc.drew HGX.out.gr)
            have HNx := Lib.hid (gr_next b q F7 L7 y wc.drew HGX.out.gr (tab_below HT.out HGX.out.bel (Nat.le_refl _)))
            have HX0 := Lib.hid (fun W (hW : GX w b r q p (some (.cells #[.int .i64 x, .int .i64 y, .int .i64 z] 69)) F7 G7 L7 L7 W) => rg_next r q G7 L7 y W hW.rf hq5)
            have HX1 := Lib.hid (fun W (hW : GX w b r q p (some (.cells #[.int .i64 x, .int .i64 y, .int .i64 z] 69)) F7 G7 L7 L7 W) => gr_back b q F7 L7 z W hW.gr (tab_below HT.out hW.bel (Nat.le_refl _)))
            have HX2 := Lib.hid (fun W (hW : GX w b r q p (some (.cells #[.int .i64 x, .int .i64 y, .int .i64 z] 69)) F7 G7 L7 L7 W) => rg_back r q G7 L7 z W hW.rf hq5)
            generalize nextR q L7 y = ln at *
            generalize backR q L7 z = lb at *
            have hbb : (hb != hb) = false := by simp
            have hlenq : ((L7.length : Int) != (L7.length : Int)) = false := by simp
            clear hgx qx hr1 hrow H1 H2
            go_wp2_with fail
            go_region_held3 (fun w' => w'.cell? ⟨p, 1, none⟩ = some (.int .i64 y) ∧ w'.cell? ⟨p, 2, none⟩ = some (.int .i64 z) ∧ w'.cell? ⟨r, 1, none⟩ = some (.slice av L7.length kv))
              (first
                | exact ⟨s1, s2, s3⟩
                | exact ⟨o1, o2, o3⟩
                | exact ⟨b1, b2, b3⟩
                | exact ⟨t1, t2, t3⟩
                | exact ⟨n1, n2, n3⟩
                | exact ⟨m1, m2, m3⟩
                | exact ⟨q1, q2, q3⟩
                | fail)
              ((first
                | (go_at_call 55
                   (with_reducible refine HH1.out.mono ?_)
                   rintro e w' ⟨rfl, rfl⟩)
                | (go_at_call 56
                   (with_reducible refine HH2.out.mono ?_)
                   rintro e w' ⟨rfl, rfl⟩)
                | (go_at_call 43
                   (with_reducible refine HMk.out.mono ?_)
                   rintro e w' ⟨rfl, rfl⟩)
                | (go_at_call 57
                   (with_reducible refine HNx.out.mono ?_)
                   rintro e w8 ⟨v8, rfl, hO8, hB8⟩
                   obtain ⟨ad8, c8, rfl, hs8⟩ := src_list hO8
                   have m1 := (hB8.cell (p := ⟨p, 1, none⟩) hpw).trans q1
                   have m2 := (hB8.cell (p := ⟨p, 2, none⟩) hpw).trans q2
                   have m3 := (hB8.cell (p := ⟨r, 1, none⟩) hrw).trans q3
                   have HG8 := Lib.hid (HGX.out.below hB8)
                   have HO8 := Lib.hid hO8
                   have HY0 := Lib.hid (HX0.out w8 HG8.out)
                   clear hs8 hO8 hB8)
                | (go_at_call 58
                   (with_reducible refine HY0.out.mono ?_)
                   rintro e w9 ⟨v9, rfl, hO9, hB9⟩
                   obtain ⟨ad9, c9, rfl, hs9⟩ := src_list hO9
                   have HG9 := Lib.hid (HG8.out.below hB9)
                   obtain ⟨px, -, -⟩ := HG9.out.xo _ rfl
                   have n1 : w9.cell? ⟨p, 1, none⟩ = some (.int .i64 y) := cell_at 1 px rfl
                   have n2 : w9.cell? ⟨p, 2, none⟩ = some (.int .i64 z) := cell_at 2 px rfl
                   have n3 : w9.cell? ⟨r, 1, none⟩ = some (.slice av L7.length kv) := (World.cell?_of_block (a := ⟨r, 1, none⟩) (hB9.block r (HG8.out.rf.lt r HG8.out.rf.mem))).trans m3
                   obtain ⟨ad8', c8', hv8, hs8'⟩ := src_list (owns_of_heap HO8.out fun j hj => hB9.block j (owns_lt HO8.out j hj))
                   cases hv8
                   have HSM := Lib.hid (same_any _ _ _ _ _ _ _ _ w9 hs8' hs9)
                   clear hs9 hO9 hB9 px hs8')
                | (go_at_call 38
                   (with_reducible refine HSM.out.mono ?_)
                   rintro e w10 ⟨rfl, hS10⟩
                   rw [sameB_self]
                   have t1 := hS10.cell n1
                   have t2 := hS10.cell n2
                   have t3 := hS10.cell n3
                   have HG10 := Lib.hid (HG9.out.same hS10)
                   have HY1 := Lib.hid (HX1.out w10 HG10.out)
                   clear hS10)
                | (go_at_call 59
                   (with_reducible refine HY1.out.mono ?_)
                   rintro e w11 ⟨v11, rfl, hO11, hB11⟩
                   obtain ⟨ad11, c11, rfl, hs11⟩ := src_list hO11
                   have HG11 := Lib.hid (HG10.out.below hB11)
                   obtain ⟨px, -, -⟩ := HG11.out.xo _ rfl
                   have b1 : w11.cell? ⟨p, 1, none⟩ = some (.int .i64 y) := cell_at 1 px rfl
                   have b2 : w11.cell? ⟨p, 2, none⟩ = some (.int .i64 z) := cell_at 2 px rfl
                   have b3 : w11.cell? ⟨r, 1, none⟩ = some (.slice av L7.length kv) := (World.cell?_of_block (a := ⟨r, 1, none⟩) (hB11.block r (HG10.out.rf.lt r HG10.out.rf.mem))).trans t3
                   have HO11 := Lib.hid hO11
                   have HY2 := Lib.hid (HX2.out w11 HG11.out)
                   clear hs11 hO11 hB11 px)
                | (go_at_call 60
                   (with_reducible refine HY2.out.mono ?_)
                   rintro e w12 ⟨v12, rfl, hO12, hB12⟩
                   obtain ⟨ad12, c12, rfl, hs12⟩ := src_list hO12
                   have HG12 := Lib.hid (HG11.out.below hB12)
                   obtain ⟨px, -, -⟩ := HG12.out.xo _ rfl
                   have o1 : w12.cell? ⟨p, 1, none⟩ = some (.int .i64 y) := cell_at 1 px rfl
                   have o2 : w12.cell? ⟨p, 2, none⟩ = some (.int .i64 z) := cell_at 2 px rfl
                   have o3 : w12.cell? ⟨r, 1, none⟩ = some (.slice av L7.length kv) := (World.cell?_of_block (a := ⟨r, 1, none⟩) (hB12.block r (HG11.out.rf.lt r HG11.out.rf.mem))).trans b3
                   obtain ⟨ad11', c11', hv11, hs11'⟩ := src_list (owns_of_heap HO11.out fun j hj => hB12.block j (owns_lt HO11.out j hj))
                   cases hv11
                   have HSN := Lib.hid (same_any _ _ _ _ _ _ _ _ w12 hs11' hs12)
                   clear hs12 hO12 hB12 px hs11')
                | (go_at_call 38
                   (with_reducible refine HSN.out.mono ?_)
                   rintro e w13 ⟨rfl, hS13⟩
                   rw [sameB_self]
                   have s1 := hS13.cell o1
                   have s2 := hS13.cell o2
                   have s3 := hS13.cell o3
                   have HG13 := Lib.hid (HG12.out.same hS13)
                   clear hS13)
                | fail))
            go_wp2_with fail
            go_roundw
            case rel => exact ⟨k + 1, F7, G7, L7, by omega, by go_num, _, _, HG13.out⟩
            case measure => simp [intOf]; omega
        · have h41 : ¬ ((k : Int) < 40) := by omega
          have hk1 : (k : Int) < (len2 : Int) := by omega
          have hg1 := gr_edges b q F6 L6 wr HGX.out.gr (tab_below HT.out HGX.out.bel (Nat.le_refl _))
          have HX1 := Lib.hid (fun W hW => rg_edges r q G6 L6 W hW hq5)
          generalize edgesR q L6 q = W6 at *
          have HE1 := Lib.hid hg1
          clear hg1
          go_wp2_with fail
          go_fit HE1.out
          rintro e w4 ⟨v4, rfl, hO4, hB4⟩
          obtain ⟨ad4, c4, rfl⟩ := owns_slice hO4
          have HG4 := Lib.hid (HGX.out.below hB4)
          have HO4 := Lib.hid hO4
          have HE2 := Lib.hid (HX1.out w4 HG4.out.rf)
          clear hO4 hB4
          go_wp2_with fail
          go_fit HE2.out
          rintro e w5 ⟨v5, rfl, hO5, hB5⟩
          obtain ⟨ad5, c5, rfl⟩ := owns_slice hO5
          have HG5 := Lib.hid (HG4.out.below hB5)
          have hSE := sameE_any ad4 ad5 W6.length c4 W6.length c5 W6 W6 w5 (owns_zero (owns_of_heap HO4.out fun j hj => hB5.block j (owns_lt HO4.out j hj))) (owns_zero hO5)
          unfold SameEEnds at hSE
          rw [sameE_self] at hSE
          have HSE := Lib.hid hSE
          clear hO5 hB5 hSE
          go_wp2_with fail
          go_fit HSE.out
          rintro e w6 ⟨rfl, hS6⟩
          have HG6 := Lib.hid (HG5.out.same hS6)
          have HW := Lib.hid (gworks_any w6 (tab_below HT.out HG6.out.bel (Nat.le_refl _)))
          clear hS6
          go_wp2_with fail
          go_fit HW.out
          rintro e w7 ⟨rfl, hB7⟩
          have HB7 := Lib.hid (HG6.out.bel.trans (hB7.mono HG6.out.bel.size))
          clear hB7
          go_wp2_with fail
          go_ret
          exact ⟨rfl, HB7.out⟩
      · have ek : k = len2 := by omega
        subst ek
        have hg1 := gr_edges b q F6 L6 wr HGX.out.gr (tab_below HT.out HGX.out.bel (Nat.le_refl _))
        have HX1 := Lib.hid (fun W hW => rg_edges r q G6 L6 W hW hq5)
        generalize edgesR q L6 q = W6 at *
        have HE1 := Lib.hid hg1
        clear hg1
        go_wp2_with fail
        go_fit HE1.out
        rintro e w4 ⟨v4, rfl, hO4, hB4⟩
        obtain ⟨ad4, c4, rfl⟩ := owns_slice hO4
        have HG4 := Lib.hid (HGX.out.below hB4)
        have HO4 := Lib.hid hO4
        have HE2 := Lib.hid (HX1.out w4 HG4.out.rf)
        clear hO4 hB4
        go_wp2_with fail
        go_fit HE2.out
        rintro e w5 ⟨v5, rfl, hO5, hB5⟩
        obtain ⟨ad5, c5, rfl⟩ := owns_slice hO5
        have HG5 := Lib.hid (HG4.out.below hB5)
        have hSE := sameE_any ad4 ad5 W6.length c4 W6.length c5 W6 W6 w5 (owns_zero (owns_of_heap HO4.out fun j hj => hB5.block j (owns_lt HO4.out j hj))) (owns_zero hO5)
        unfold SameEEnds at hSE
        rw [sameE_self] at hSE
        have HSE := Lib.hid hSE
        clear hO5 hB5 hSE
        go_wp2_with fail
        go_fit HSE.out
        rintro e w6 ⟨rfl, hS6⟩
        have HG6 := Lib.hid (HG5.out.same hS6)
        have HW := Lib.hid (gworks_any w6 (tab_below HT.out HG6.out.bel (Nat.le_refl _)))
        clear hS6
        go_wp2_with fail
        go_fit HW.out
        rintro e w7 ⟨rfl, hB7⟩
        have HB7 := Lib.hid (HG6.out.bel.trans (hB7.mono HG6.out.bel.size))
        clear hB7
        go_wp2_with fail
        go_ret
        exact ⟨rfl, HB7.out⟩
  · have hMay := rg_may nn (some ⟨g, 0, none⟩) m c z1 wc (HEb.out.below hB3 (Nat.le_refl _))
    rw [hno] at hMay
    have HMy := Lib.hid hMay
    have hB3' := HB2.out.trans (hB3.mono HB2.out.size)
    have HW := Lib.hid (gworks_any wc (tab_below HT.out hB3' (Nat.le_refl _)))
    have HB3 := Lib.hid hB3'
    clear hB3 hB3' hno hMay
    go_wp2_with fail
    go_fit HMy.out
    rintro e w' ⟨rfl, rfl⟩
    go_wp2_with fail
    go_fit HW.out
    rintro e wd ⟨rfl, hB4⟩
    have HB4 := Lib.hid (HB3.out.trans (hB4.mono HB3.out.size))
    clear hB4
    go_wp2_with fail
    go_ret
    exact ⟨rfl, HB4.out⟩
end Go.Proofs.YtafdijcolponjaaDoor
