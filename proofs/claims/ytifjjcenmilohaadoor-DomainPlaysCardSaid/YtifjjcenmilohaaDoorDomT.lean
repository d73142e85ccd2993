/- DomainPlays returns true for every input. Condition: where the tables lie. -/
import Derived.Test.YtifjjcenmilohaaDoorDomS
import Derived.Deep.CutBlock
namespace Go.Proofs.YtifjjcenmilohaaDoor
open Go.RowKit

set_option maxRecDepth 100000 in
set_option maxHeartbeats 4000000 in
theorem dplays_walk (a1 : Option Addr) (len1 cap1 : Nat) (z1 : List Int) (a2 : Option Addr) (len2 cap2 : Nat) (z2 : Nat → Nat → Int) (w : World)
    (h1 : IsRow .i64 w a1 len1 cap1 z1) (h2 : IsRowS 3 w a2 len2 cap2 z2) (hT : TabIs w) :
    Calls Tryd.prog 3 #[.slice a1 len1 cap1, .slice a2 len2 cap2] w (YesEnds w) := by
  have HT := Lib.hid hT
  have HI2 := Lib.hid h2
  have hl2 := h2.len_le
  have hsrc := h1.src (Nat.le_refl len1)
  obtain ⟨l, hl⟩ : ∃ l, l = z1.take len1 := ⟨_, rfl⟩
  have hsrc' : Src w a1 len1 cap1 1 (intl l) := by rw [hl]; exact hsrc
  have HF1 := Lib.hid (few_any a1 len1 cap1 l w hsrc')
  clear hT h1 h2 hsrc hsrc' hl
  go_enter Tryd.func3, Tryd.ntmps3
  go_wp2_with fail
  go_fit HF1.out
  rintro e wa ⟨g, c, rfl, hB1, hs1⟩
  have hff := few_few l
  generalize fewD l = q at *
  have HF2 := Lib.hid (few_any _ _ _ _ wa hs1)
  unfold FewEnds at HF2
  rw [hff] at HF2
  have HS1 := Lib.hid hs1
  have HB1 := Lib.hid hB1
  clear hs1 hB1 hff
  go_wp2_with fail
  go_fit HF2.out
  rintro e wb ⟨g2, c2, rfl, hB2, hs2⟩
  have HN := Lib.hid (dnew_any _ _ _ _ wb hs2)
  have HS2 := Lib.hid (HS1.out.belowAll hB2 (Nat.le_refl _))
  have HB2 := Lib.hid (HB1.out.trans (hB2.mono HB1.out.size))
  clear hB2 hs2
  go_wp2_with fail
  go_fit HN.out
  rintro e wc (⟨hyes, d, F, rfl, hD, hF, hB3⟩ | ⟨hno, rfl, rfl⟩)
  · have hz2' := HB2.out.size
    have hB3' := HB2.out.trans (hB3.mono hz2')
    have hs3 := HS2.out.belowAll hB3 (Nat.le_refl _)
    have HMy := Lib.hid (rdmay_any _ _ _ _ wc hs3)
    rw [hyes] at HMy
    have HMk := Lib.hid (rmake_any _ _ _ _ wc hs3 hyes)
    have hn200 := (szB_rng hyes).1
    have hOk := dok_new hyes
    have hal := allR_eq q
    have HD := Lib.hid hD
    have HF := Lib.hid (fun k hk => Nat.le_trans hz2' (hF k hk) : ∀ k ∈ F, w.heap.size ≤ k)
    have HB3 := Lib.hid hB3'
    have HRel : Hid (DRel (szN q) ((szN q).map full) (newT q) (allR q) []) := ⟨hOk, hal.symm, [], rfl, rfl, fun i hi => absurd hi (Nat.not_lt_zero i)⟩
    have HOk0 := Lib.hid (ok_newT q 0)
    have hsl : (szN q).length = q.length := szN_len q
    unfold RMakeEnds at HMk
    generalize allR q = R0 at *
    generalize (szN q).map full = X0 at *
    generalize szN q = sz at *
    generalize newT q = T0 at *
    have hsz200 : sz.length ≤ 200 := by omega
    clear hD hF hB3 hB3' hyes hs3 hOk hal hsl
    go_wp2_with fail
    go_fit HMy.out
    rintro e w' ⟨rfl, rfl⟩
    go_wp2_with fail
    go_fit HMk.out
    rintro e wd ⟨G, rfl, hR, hG, hB4⟩
    have hz3 := HB3.out.size
    have hdx : DX w d wc.heap.size 0 none F G sz T0 R0 [] wd := ⟨HD.out.below hB4 (Nat.le_refl _), hR, fun k hk hg => by have := HD.out.lt k hk; have := hG k hg; omega, HF.out, fun k hk => Nat.le_trans hz3 (hG k hk), HB3.out.trans (hB4.mono hz3), fun u hu => by cases hu⟩
    have HDX := Lib.hid hdx
    generalize wc.heap.size = r at *
    clear hR hG hB4 hdx HMk HMy HB3 HF HD HB2 HS2 HN HS1 HB1 HF2 HF1 hz2' hz3
    go_wp2_with fail
    go_loopw [8] (fun i wr => DPlayRel w d r len2 sz i wr) (fun i _ => len2 - (intOf i).toNat)
    case atStart => exact ⟨0, 0, none, F, G, X0, T0, R0, [], Nat.zero_le _, by decide, rfl, HDX.out, HRel.out, HOk0.out⟩
    case round =>
      clear HDX HRel HOk0
      obtain ⟨k, p0, o0, F, G, X, T, R, hs, hk, hk60, rfl, hdx, hrl, hok⟩ := hrel
      have HDX := Lib.hid hdx
      have HRl := Lib.hid hrl
      have HOk := Lib.hid hok
      clear hdx hrl hok
      by_cases hlt : k < len2
      · by_cases h60 : k < 60
        · obtain ⟨xb, xo, rfl, hxb, hcell⟩ := (HI2.out.below HDX.out.bel (Nat.le_refl _)).at (by decide) hlt
          have e0 := (hcell k hlt 0 (by decide)).1
          have e1 := (hcell k hlt 1 (by decide)).1
          have e2 := (hcell k hlt 2 (by decide)).1
          have hwf0 := (hcell k hlt 0 (by decide)).2
          rw [← Nat.add_assoc] at e1 e2
          rw [Nat.add_zero] at e0
          clear hcell
          generalize z2 k 0 = x at *
          generalize z2 k 1 = y at *
          generalize z2 k 2 = z at *
          have hk0 : (0 : Int) ≤ (k : Int) := Int.natCast_nonneg _
          have hk1 : (k : Int) < (len2 : Int) := by omega
          have hk6 : (k : Int) < 60 := by omega
          go_wp2_with fail
          have HDA := Lib.hid (HDX.out.alloc (.cells #[.int .i64 x, .int .i64 y, .int .i64 z] 34))
          generalize wr.alloc (.cells #[.int .i64 x, .int .i64 y, .int .i64 z] 34) = wa at *
          generalize wr.heap.size = p at *
          clear e0 e1 e2 HDX hxb wr
          obtain ⟨qx, -, -⟩ := HDA.out.xo _ rfl
          have c1 : wa.cell? ⟨p, 1, none⟩ = some (.int .i64 y) := cell_at 1 qx rfl
          have c2 : wa.cell? ⟨p, 2, none⟩ = some (.int .i64 z) := cell_at 2 qx rfl
          have HAm := Lib.hid (among_any x 4 wa hwf0 (by decide) (by decide))
          clear qx
          go_fit HAm.out
          rintro e w' ⟨ar, d0', d1', rfl, rfl⟩
          have hd4 : ar = 0 ∨ ar = 1 ∨ ar = 2 ∨ ar = 3 := by omega
          clear HAm d0' d1' hwf0
          go_upto_block 2 with fail
          go_cut [10] (fun ok wc => DPlayCut w d r p k (some (.cells #[.int .i64 x, .int .i64 y, .int .i64 z] 34)) sz ok wc)
          case first =>
            rcases hd4 with rfl | rfl | rfl | rfl
            · have HP0 := Lib.hid (ddrop_any d F sz X T y z k wa.drew HDA.out.drew.dom HRl.out.ok HOk.out (by omega))
              have HP1 := Lib.hid (fun W hW => rdrop_any r G R hs y z W hW (by rw [HRl.out.now]; exact rowsX_ok HRl.out.ok hsz200))
              have hde : dropR R y z = (actC sz y z (dropM (X.getD y.toNat 0) z.toNat), rowsX sz (actX sz X y z (dropM (X.getD y.toNat 0) z.toNat))) := by rw [HRl.out.now]; exact drop_eq HRl.out.ok y z
              rw [hde] at HP1
              have HR2 := Lib.hid (drel_act HRl.out HOk.out y z _ (fun hm => drop_le HRl.out.ok hm) rfl)
              have HO2 := Lib.hid (ok_act HOk.out HRl.out.ok.cl y z (dropM (X.getD y.toNat 0) z.toNat))
              generalize dropM (X.getD y.toNat 0) z.toNat = xm at *
              generalize rowsX sz (actX sz X y z xm) = R2 at *
              generalize actX sz X y z xm = X2 at *
              generalize actT sz T y z xm = T2 at *
              generalize actC sz y z xm = cc at *
              clear hde
              have hcc : (cc == cc) = true := by simp
              go_wp2_with fail
              go_region_held3 (fun w' => w'.cell? ⟨p, 1, none⟩ = some (.int .i64 y) ∧ w'.cell? ⟨p, 2, none⟩ = some (.int .i64 z))
                (first
                  | exact ⟨m1, m2⟩
                  | exact ⟨l1, l2⟩
                  | exact ⟨c1, c2⟩
                  | fail)
                ((first
                  | (go_at_call 12
                     (with_reducible refine HP0.out.mono ?_)
                     intro e w6 he6
                     obtain ⟨rfl, F7, hg7⟩ := HDA.out.drew.goD he6
                     obtain ⟨qx, -, -⟩ := hg7.xo _ rfl
                     have l1 : w6.cell? ⟨p, 1, none⟩ = some (.int .i64 y) := cell_at 1 qx rfl
                     have l2 : w6.cell? ⟨p, 2, none⟩ = some (.int .i64 z) := cell_at 2 qx rfl
                     have HP1' := Lib.hid (HP1.out w6 hg7.ref)
                     have HG7 := Lib.hid hg7
                     clear he6 hg7 qx)
                  | (go_at_call 13
                     (with_reducible refine HP1'.out.mono ?_)
                     intro e w7 he7
                     obtain ⟨rfl, G7, hg8⟩ := HG7.out.goR he7
                     obtain ⟨qx, -, -⟩ := hg8.xo _ rfl
                     have m1 : w7.cell? ⟨p, 1, none⟩ = some (.int .i64 y) := cell_at 1 qx rfl
                     have m2 : w7.cell? ⟨p, 2, none⟩ = some (.int .i64 z) := cell_at 2 qx rfl
                     have HG8 := Lib.hid hg8
                     clear he7 hg8 qx)
                  | fail))
              go_wp2_with fail
              go_meet
              exact ⟨F7, G7, X2, T2, R2, hs, rfl, HG8.out, HR2.out, HO2.out⟩
            · have HP0 := Lib.hid (donly_any d F sz X T y z k wa.drew HDA.out.drew.dom HRl.out.ok HOk.out (by omega))
              have HP1 := Lib.hid (fun W hW => ronly_any r G R hs y z W hW (by rw [HRl.out.now]; exact rowsX_ok HRl.out.ok hsz200))
              have hde : onlyR R y z = (actC sz y z (onlyM (X.getD y.toNat 0) z.toNat), rowsX sz (actX sz X y z (onlyM (X.getD y.toNat 0) z.toNat))) := by rw [HRl.out.now]; exact only_eq HRl.out.ok y z
              rw [hde] at HP1
              have HR2 := Lib.hid (drel_act HRl.out HOk.out y z _ (fun hm => only_le HRl.out.ok hm) rfl)
              have HO2 := Lib.hid (ok_act HOk.out HRl.out.ok.cl y z (onlyM (X.getD y.toNat 0) z.toNat))
              generalize onlyM (X.getD y.toNat 0) z.toNat = xm at *
              generalize rowsX sz (actX sz X y z xm) = R2 at *
              generalize actX sz X y z xm = X2 at *
              generalize actT sz T y z xm = T2 at *
              generalize actC sz y z xm = cc at *
              clear hde
              have hcc : (cc == cc) = true := by simp
              go_wp2_with fail
              go_region_held3 (fun w' => w'.cell? ⟨p, 1, none⟩ = some (.int .i64 y) ∧ w'.cell? ⟨p, 2, none⟩ = some (.int .i64 z))
                (first
                  | exact ⟨m1, m2⟩
                  | exact ⟨l1, l2⟩
                  | exact ⟨c1, c2⟩
                  | fail)
                ((first
                  | (go_at_call 14
                     (with_reducible refine HP0.out.mono ?_)
                     intro e w6 he6
                     obtain ⟨rfl, F7, hg7⟩ := HDA.out.drew.goD he6
                     obtain ⟨qx, -, -⟩ := hg7.xo _ rfl
                     have l1 : w6.cell? ⟨p, 1, none⟩ = some (.int .i64 y) := cell_at 1 qx rfl
                     have l2 : w6.cell? ⟨p, 2, none⟩ = some (.int .i64 z) := cell_at 2 qx rfl
                     have HP1' := Lib.hid (HP1.out w6 hg7.ref)
                     have HG7 := Lib.hid hg7
                     clear he6 hg7 qx)
                  | (go_at_call 15
                     (with_reducible refine HP1'.out.mono ?_)
                     intro e w7 he7
                     obtain ⟨rfl, G7, hg8⟩ := HG7.out.goR he7
                     obtain ⟨qx, -, -⟩ := hg8.xo _ rfl
                     have m1 : w7.cell? ⟨p, 1, none⟩ = some (.int .i64 y) := cell_at 1 qx rfl
                     have m2 : w7.cell? ⟨p, 2, none⟩ = some (.int .i64 z) := cell_at 2 qx rfl
                     have HG8 := Lib.hid hg8
                     clear he7 hg8 qx)
                  | fail))
              go_wp2_with fail
              go_meet
              exact ⟨F7, G7, X2, T2, R2, hs, rfl, HG8.out, HR2.out, HO2.out⟩
            · have HP0 := Lib.hid (dbegin_any d F sz T k wa HDA.out.dom HOk.out (by omega))
              have HP1 := Lib.hid (fun W hW => rbegin_any r G sz X T k R hs W hW HRl.out HOk.out hsz200)
              have HO2 := Lib.hid (ok_more (ok_begin HOk.out) (Nat.le_succ k))
              generalize (beginF T).1 = cc at *
              generalize (beginF T).2 = T2 at *
              have hcc : (cc == cc) = true := by simp
              go_wp2_with fail
              go_fit HP0.out
              intro e w6 he6
              obtain ⟨rfl, F7, hg7⟩ := HDA.out.goD he6
              have HP1' := Lib.hid (HP1.out w6 hg7.ref)
              have HG7 := Lib.hid hg7
              clear he6 hg7
              go_wp2_with fail
              go_fit HP1'.out
              rintro e w7 ⟨hs6, hrel6, he7⟩
              obtain ⟨rfl, G7, hg8⟩ := HG7.out.goR he7
              have HG8 := Lib.hid hg8
              have HR6 := Lib.hid hrel6
              clear he7 hg8 hrel6
              go_wp2_with fail
              go_meet
              exact ⟨F7, G7, X, T2, R, hs6, rfl, HG8.out, HR6.out, HO2.out⟩
            · have HP0 := Lib.hid (dundo_any d F sz T k wa HDA.out.dom HOk.out (by omega))
              have HP1 := Lib.hid (fun W hW => rundo_any r G sz X T k R hs W hW HRl.out HOk.out)
              have HO2 := Lib.hid (ok_more (ok_undo HOk.out) (Nat.le_succ k))
              generalize (undoF T).1 = cc at *
              generalize (undoF T).2 = T2 at *
              have hcc : (cc == cc) = true := by simp
              go_wp2_with fail
              go_fit HP0.out
              intro e w6 he6
              obtain ⟨rfl, F7, hg7⟩ := HDA.out.goD he6
              have HP1' := Lib.hid (HP1.out w6 hg7.ref)
              have HG7 := Lib.hid hg7
              clear he6 hg7
              go_wp2_with fail
              go_fit HP1'.out
              rintro e w7 ⟨X6, R6, hs6, hrel6, he7⟩
              obtain ⟨rfl, G7, hg8⟩ := HG7.out.goR he7
              have HG8 := Lib.hid hg8
              have HR6 := Lib.hid hrel6
              clear he7 hg8 hrel6
              go_wp2_with fail
              go_meet
              exact ⟨F7, G7, X6, T2, R6, hs6, rfl, HG8.out, HR6.out, HO2.out⟩
          case rest =>
            clear HDA HRl HOk c1 c2 hd4 wa
            obtain ⟨F7, G7, X7, T7, R7, hs7, rfl, hdx, hrl, hok⟩ := hcut
            have HDX := Lib.hid hdx
            have HRl := Lib.hid hrl
            have HOk := Lib.hid hok
            obtain ⟨qx, -, -⟩ := hdx.xo _ rfl
            have q1 : wc.cell? ⟨p, 1, none⟩ = some (.int .i64 y) := cell_at 1 qx rfl
            have hpw := lt_of_block qx
            have hRk : RowsOk R7 := by rw [hrl.now]; exact rowsX_ok hrl.ok hsz200
            have eL : leftB R7 y = leftL sz X7 y := by rw [hrl.now]; exact left_eq hrl.ok y
            have eO : ropenL R7 = openL sz X7 := by rw [hrl.now]; exact open_eq hrl.ok
            have hHL := rleft_any r G7 R7 hs7 y wc hdx.ref hRk
            rw [eL] at hHL
            have hX0 := fun W (hW : DX w d r p (some (.cells #[.int .i64 x, .int .i64 y, .int .i64 z] 34)) F7 G7 sz T7 R7 hs7 W) => dfixed_any d F7 sz X7 T7 y W hW.dom HRl.out.ok (tab_below HT.out hW.bel (Nat.le_refl _))
            have hX1 := fun W (hW : DX w d r p (some (.cells #[.int .i64 x, .int .i64 y, .int .i64 z] 34)) F7 G7 sz T7 R7 hs7 W) => dleftL_any d F7 sz X7 T7 y W hW.dom HRl.out.ok (tab_below HT.out hW.bel (Nat.le_refl _))
            have hX2 := fun W (hW : DX w d r p (some (.cells #[.int .i64 x, .int .i64 y, .int .i64 z] 34)) F7 G7 sz T7 R7 hs7 W) => dopen_any d F7 sz X7 T7 W hW.dom HRl.out.ok (tab_below HT.out hW.bel (Nat.le_refl _)) hsz200
            have hX3 := fun W (hW : DX w d r p (some (.cells #[.int .i64 x, .int .i64 y, .int .i64 z] 34)) F7 G7 sz T7 R7 hs7 W) => ropen_any r G7 R7 hs7 W hW.ref hRk
            rw [eO] at hX3
            unfold FixEnds fixV at hX0
            unfold ListEnds at hX1 hX2 hX3 hHL
            generalize leftL sz X7 y = lv at *
            generalize openL sz X7 = lo at *
            clear hdx hrl hok qx eL eO hRk
            by_cases h1 : lv.length = 1
            · obtain ⟨x1, rfl⟩ : ∃ x1, lv = [x1] := List.length_eq_one_iff.1 h1
              rw [if_pos h1] at hX0
              have HX0 := Lib.hid hX0
              have HX1 := Lib.hid hX1
              have HX2 := Lib.hid hX2
              have HX3 := Lib.hid hX3
              have HHL := Lib.hid hHL
              clear hX0 hX1 hX2 hX3 hHL h1
              go_wp2_with fail
              go_fit HHL.out
              rintro e w8 ⟨v8, rfl, hO8, hB8⟩
              obtain ⟨g8, c8, rfl⟩ : ∃ g c, v8 = .slice (some ⟨g, 0, none⟩) 1 c := by
                rcases owns_shape hO8 with ⟨-, h0⟩ | ⟨g, c, hv, -, -⟩
                · simp at h0
                · exact ⟨g, c, hv⟩
              have HG8 := Lib.hid (HDX.out.below hB8)
              have HO8 := Lib.hid hO8
              have m1 : w8.cell? ⟨p, 1, none⟩ = some (.int .i64 y) := (hB8.cell (p := ⟨p, 1, none⟩) hpw).trans q1
              have hpw8 : p < w8.heap.size := Nat.lt_of_lt_of_le hpw hB8.size
              have HF8 := Lib.hid (HX0.out w8 HG8.out)
              clear hO8 hB8 q1 hpw
              go_wp2_with fail
              go_fit HF8.out
              rintro e w9 ⟨rfl, hB9⟩
              have HG9 := Lib.hid (HG8.out.below hB9)
              have HO9 := Lib.hid (owns_of_heap HO8.out fun q hq => hB9.block q (owns_lt HO8.out q hq))
              have m2 : w9.cell? ⟨p, 1, none⟩ = some (.int .i64 y) := (hB9.cell (p := ⟨p, 1, none⟩) hpw8).trans m1
              have HL9 := Lib.hid (HX1.out w9 HG9.out)
              clear hB9 m1 hpw8
              go_wp2_with fail
              go_fit HL9.out
              rintro e w10 ⟨v10, rfl, hO10, hB10⟩
              obtain ⟨ad10, c10, rfl, hs10⟩ := src_list hO10
              have HG10 := Lib.hid (HG9.out.below hB10)
              have hO9' := owns_of_heap HO9.out (w' := w10) fun q hq => hB10.block q (owns_lt HO9.out q hq)
              have HO10 := Lib.hid hO9'
              obtain ⟨ad8', c8', hv8, hs8⟩ := src_list hO9'
              cases hv8
              have HSM := Lib.hid (same_any _ _ _ _ _ _ _ _ w10 hs10 hs8)
              clear hO10 hs10 hs8 hB10 m2 hO9'
              go_wp2_with fail
              go_fit HSM.out
              rintro e w11 ⟨rfl, hS11⟩
              rw [sameB_self]
              have HG11 := Lib.hid (HG10.out.same hS11)
              have z8 : w11.cell? ⟨g8, 0, none⟩ = some (.int .i64 (x1 : Int)) := hS11.cell ((HO10.out.cellAt 0 (by simp)).trans (by simp [intl, natI]))
              have hxx : ((x1 : Int) != (x1 : Int)) = false := by simp
              have HP11 := Lib.hid (HX2.out w11 HG11.out)
              clear hS11
              go_wp2_with fail
              go_fit HP11.out
              rintro e w12 ⟨v12, rfl, hO12, hB12⟩
              obtain ⟨ad12, c12, rfl, hs12⟩ := src_list hO12
              have HG12 := Lib.hid (HG11.out.below hB12)
              have HO12 := Lib.hid hO12
              have HQ12 := Lib.hid (HX3.out w12 HG12.out)
              clear hO12 hs12 hB12
              go_wp2_with fail
              go_fit HQ12.out
              rintro e w13 ⟨v13, rfl, hO13, hB13⟩
              obtain ⟨ad13, c13, rfl, hs13⟩ := src_list hO13
              have HG13 := Lib.hid (HG12.out.below hB13)
              obtain ⟨ad12', c12', hv12, hs12⟩ := src_list (owns_of_heap HO12.out (w' := w13) fun q hq => hB13.block q (owns_lt HO12.out q hq))
              cases hv12
              have HSN := Lib.hid (same_any _ _ _ _ _ _ _ _ w13 hs12 hs13)
              clear hO13 hs13 hB13 hs12
              go_wp2_with fail
              go_fit HSN.out
              rintro e w14 ⟨rfl, hS14⟩
              rw [sameB_self]
              have HG14 := Lib.hid (HG13.out.same hS14)
              clear hS14
              go_wp2_with fail
              go_roundw
              case rel => exact ⟨k + 1, p, _, F7, G7, X7, T7, R7, hs7, by omega, by omega, by go_num, HG14.out, HRl.out, HOk.out⟩
              case measure => simp [intOf]; omega
            · rw [if_neg h1] at hX0
              have HX0 := Lib.hid hX0
              have HX1 := Lib.hid hX1
              have HX2 := Lib.hid hX2
              have HX3 := Lib.hid hX3
              have HHL := Lib.hid hHL
              have hl1 : ((lv.length : Int) == 1) = false := by rw [beq_eq_false_iff_ne]; omega
              clear hX0 hX1 hX2 hX3 hHL h1
              go_wp2_with fail
              go_fit HHL.out
              rintro e w8 ⟨v8, rfl, hO8, hB8⟩
              obtain ⟨ad8, c8, rfl⟩ := slice_form hO8
              have HG8 := Lib.hid (HDX.out.below hB8)
              have HO8 := Lib.hid hO8
              have m1 : w8.cell? ⟨p, 1, none⟩ = some (.int .i64 y) := (hB8.cell (p := ⟨p, 1, none⟩) hpw).trans q1
              have hpw8 : p < w8.heap.size := Nat.lt_of_lt_of_le hpw hB8.size
              have HF8 := Lib.hid (HX0.out w8 HG8.out)
              clear hO8 hB8 q1 hpw
              go_wp2_with fail
              go_fit HF8.out
              rintro e w9 ⟨rfl, hB9⟩
              have HG9 := Lib.hid (HG8.out.below hB9)
              have HO9 := Lib.hid (owns_of_heap HO8.out fun q hq => hB9.block q (owns_lt HO8.out q hq))
              have m2 : w9.cell? ⟨p, 1, none⟩ = some (.int .i64 y) := (hB9.cell (p := ⟨p, 1, none⟩) hpw8).trans m1
              have HL9 := Lib.hid (HX1.out w9 HG9.out)
              clear hB9 m1 hpw8
              go_wp2_with fail
              go_fit HL9.out
              rintro e w10 ⟨v10, rfl, hO10, hB10⟩
              obtain ⟨ad10, c10, rfl, hs10⟩ := src_list hO10
              have HG10 := Lib.hid (HG9.out.below hB10)
              have hO9' := owns_of_heap HO9.out (w' := w10) fun q hq => hB10.block q (owns_lt HO9.out q hq)
              have HO10 := Lib.hid hO9'
              obtain ⟨ad8', c8', hv8, hs8⟩ := src_list hO9'
              cases hv8
              have HSM := Lib.hid (same_any _ _ _ _ _ _ _ _ w10 hs10 hs8)
              clear hO10 hs10 hs8 hB10 m2 hO9'
              go_wp2_with fail
              go_fit HSM.out
              rintro e w11 ⟨rfl, hS11⟩
              rw [sameB_self]
              have HG11 := Lib.hid (HG10.out.same hS11)
              have HP11 := Lib.hid (HX2.out w11 HG11.out)
              clear hS11
              go_wp2_with fail
              go_fit HP11.out
              rintro e w12 ⟨v12, rfl, hO12, hB12⟩
              obtain ⟨ad12, c12, rfl, hs12⟩ := src_list hO12
              have HG12 := Lib.hid (HG11.out.below hB12)
              have HO12 := Lib.hid hO12
              have HQ12 := Lib.hid (HX3.out w12 HG12.out)
              clear hO12 hs12 hB12
              go_wp2_with fail
              go_fit HQ12.out
              rintro e w13 ⟨v13, rfl, hO13, hB13⟩
              obtain ⟨ad13, c13, rfl, hs13⟩ := src_list hO13
              have HG13 := Lib.hid (HG12.out.below hB13)
              obtain ⟨ad12', c12', hv12, hs12⟩ := src_list (owns_of_heap HO12.out (w' := w13) fun q hq => hB13.block q (owns_lt HO12.out q hq))
              cases hv12
              have HSN := Lib.hid (same_any _ _ _ _ _ _ _ _ w13 hs12 hs13)
              clear hO13 hs13 hB13 hs12
              go_wp2_with fail
              go_fit HSN.out
              rintro e w14 ⟨rfl, hS14⟩
              rw [sameB_self]
              have HG14 := Lib.hid (HG13.out.same hS14)
              clear hS14
              go_wp2_with fail
              go_roundw
              case rel => exact ⟨k + 1, p, _, F7, G7, X7, T7, R7, hs7, by omega, by omega, by go_num, HG14.out, HRl.out, HOk.out⟩
              case measure => simp [intOf]; omega
        · have h61 : ¬ ((k : Int) < 60) := by omega
          have hk1 : (k : Int) < (len2 : Int) := by omega
          have HW := Lib.hid (dworks_any wr (tab_below HT.out HDX.out.bel (Nat.le_refl _)))
          go_wp2_with fail
          go_fit HW.out
          rintro e w7 ⟨rfl, hB7⟩
          have HB7 := Lib.hid (HDX.out.bel.trans (hB7.mono HDX.out.bel.size))
          clear hB7
          go_wp2_with fail
          go_ret
          exact ⟨rfl, HB7.out⟩
      · have ek : k = len2 := by omega
        subst ek
        have HW := Lib.hid (dworks_any wr (tab_below HT.out HDX.out.bel (Nat.le_refl _)))
        go_wp2_with fail
        go_fit HW.out
        rintro e w7 ⟨rfl, hB7⟩
        have HB7 := Lib.hid (HDX.out.bel.trans (hB7.mono HDX.out.bel.size))
        clear hB7
        go_wp2_with fail
        go_ret
        exact ⟨rfl, HB7.out⟩
  · have hs3 := HS2.out
    have hMy := rdmay_any _ _ _ _ wb hs3
    rw [hno] at hMy
    have HMy := Lib.hid hMy
    have HW := Lib.hid (dworks_any wb (tab_below HT.out HB2.out (Nat.le_refl _)))
    clear hs3 hMy hno
    go_wp2_with fail
    go_fit HMy.out
    rintro e w' ⟨rfl, rfl⟩
    go_wp2_with fail
    go_fit HW.out
    rintro e wd ⟨rfl, hB4⟩
    have HB4 := Lib.hid (HB2.out.trans (hB4.mono HB2.out.size))
    clear hB4
    go_wp2_with fail
    go_ret
    exact ⟨rfl, HB4.out⟩
end Go.Proofs.YtifjjcenmilohaaDoor
