/- GraphUndoes returns true for every input. Condition: where the table lies. -/
import Derived.Test.YtafdijcolponjaaDoorGraphR
import Derived.Test.YtafdijcolponjaaDoorGraphP
namespace Go.Proofs.YtafdijcolponjaaDoor
open Go.RowKit

theorem IsRowS.below {m : Nat} {w w' : World} {a : Option Addr} {len cap : Nat} {zs : Nat → Nat → Int} (h : IsRowS m w a len cap zs) {B : Nat} (hb : Below B w w') (hB : w.heap.size ≤ B) (_hm : 0 < m) : IsRowS m w' a len cap zs := by
  rcases h with h | ⟨x, rfl, h1, h2, hc⟩
  · exact .inl h
  · refine .inr ⟨x, rfl, h1, h2, fun i hi j hj => ?_⟩
    have h := hc i hi j hj
    refine ⟨?_, h.2⟩
    have hlt := World.block_lt_of_cell? w (x.add (i * m + j)) h.1
    exact (World.cell?_of_block (a := x.add (i * m + j)) (hb.block _ (by omega))).trans h.1

theorem putL_pre (n : Nat) (L E : List (Nat × Nat)) (a z : Int) : ∃ E', putL n (L ++ E) a z = L ++ E' := by
  unfold putL
  split
  · split
    · exact ⟨E, rfl⟩
    · exact ⟨E ++ [(a.toNat, z.toNat)], by rw [List.append_assoc]⟩
  · exact ⟨E, rfl⟩
theorem undo_back (L E : List (Nat × Nat)) : undoC (L ++ E) (L.length : Int) = 0 ∧ undoL (L ++ E) (L.length : Int) = L := by
  have h : (0 : Int) ≤ (L.length : Int) ∧ (L.length : Int) ≤ ((L ++ E).length : Int) := by rw [List.length_append]; omega
  unfold undoC undoL
  rw [if_pos h, if_pos h]
  exact ⟨rfl, by simp⟩

def URel (w : World) (b n : Nat) (L W : List (Nat × Nat)) (vw : Value) (len : Nat) (i : Value) (wr : World) : Prop :=
  ∃ (k : Nat) (F : List Nat) (E : List (Nat × Nat)), k ≤ len ∧ i = .int .i64 k ∧ GrAt wr b F n (L ++ E) ∧ (∀ q ∈ F, w.heap.size ≤ q) ∧ Below w.heap.size w wr ∧
    wr.ownsRow 0 61 2 vw W.length (edgeCells W) ∧ (∀ q ∈ F, vw.ownBlock ≠ some q)

set_option maxRecDepth 20000 in
set_option maxHeartbeats 1000000 in
theorem gundoes_walk (n : Int) (a1 : Option Addr) (len1 cap1 : Nat) (z1 : Nat → Nat → Int) (a2 : Option Addr) (len2 cap2 : Nat) (z2 : Nat → Nat → Int) (w : World)
    (_hn : (Lit.int .i64 n).wf = true) (h1 : IsRowS 2 w a1 len1 cap1 z1) (h2 : IsRowS 2 w a2 len2 cap2 z2) (hT : TabIs w) :
    Calls Tryd.prog 8 #[.int .i64 n, .slice a1 len1 cap1, .slice a2 len2 cap2] w (YesEnds w) := by
  have HW := Lib.hid (gworks_any w hT)
  have HT := Lib.hid hT
  have HI1 := Lib.hid h1
  have HI2 := Lib.hid h2
  have hl2 := h2.len_le
  clear hT h1 h2 _hn
  go_enter Tryd.func8, Tryd.ntmps8
  go_wp2_with fail
  go_fit HW.out
  rintro e wa ⟨rfl, hB1⟩
  have HSm := Lib.hid (small_any n wa)
  have HFe := Lib.hid (efew_any a1 len1 cap1 z1 wa (HI1.out.below hB1 (Nat.le_refl _) (by decide)))
  have HB1 := Lib.hid hB1
  generalize smallN n = nn at *
  generalize fewN len1 = m at *
  clear hB1
  go_wp2_with fail
  go_fit HSm.out
  rintro e w' ⟨rfl, rfl⟩
  go_wp2_with fail
  go_fit HFe.out
  rintro e wb ⟨g, c, rfl, hown, hB2⟩
  have HO := Lib.hid (gr_of nn (some ⟨g, 0, none⟩) m c z1 wb (EdgesIn.of_owns hown))
  have HB2 := Lib.hid (HB1.out.trans (hB2.mono HB1.out.size))
  clear hown hB2
  go_wp2_with fail
  go_fit HO.out
  rintro e wc (⟨hyes, b, F, rfl, hG, hF, hB3⟩ | ⟨hno, rfl, hB3⟩)
  · generalize nn.toNat = q at hG
    generalize ofZ q z1 m = L at hG
    have hB3 := HB2.out.trans (hB3.mono HB2.out.size)
    have hz2 := HB2.out.size
    have HEd := Lib.hid (gr_edges b q F L wc hG (tab_below HT.out hB3 (Nat.le_refl _)))
    have HG := Lib.hid hG
    have HF := Lib.hid (fun k hk => Nat.le_trans hz2 (hF k hk) : ∀ k ∈ F, w.heap.size ≤ k)
    have HB3 := Lib.hid hB3
    clear hG hF hB3 hyes
    go_wp2_with fail
    go_fit HEd.out
    rintro e wd ⟨vw, rfl, hown, hB4⟩
    have hG4 := HG.out.below hB4 (Nat.le_refl _)
    have HMk := Lib.hid (gr_mark b q F L wd hG4)
    have hdis : ∀ k ∈ F, vw.ownBlock ≠ some k := fun k hk h => by
      have h1 := HG.out.lt k hk
      have h2 := (World.ownsRow.lt hown k h).1
      omega
    have HG4 := Lib.hid hG4
    have HOw := Lib.hid (owns_zero hown)
    have HDi := Lib.hid hdis
    have HB4 := Lib.hid (HB3.out.trans (hB4.mono HB3.out.size))
    have hwq : ∃ W, edgesR q L q = W := ⟨_, rfl⟩
    obtain ⟨W, hW⟩ := hwq
    rw [hW] at HOw
    have HWq := Lib.hid hW
    clear hW
    clear hG4 hown hdis hB4
    go_wp2_with fail
    go_fit HMk.out
    rintro e w' ⟨rfl, rfl⟩
    go_wp2_with fail
    go_loopw [11] (fun i wr => URel w b q L W vw len2 i wr) (fun i _ => len2 - (intOf i).toNat)
    case atStart => exact ⟨0, F, [], Nat.zero_le _, rfl, by rw [List.append_nil]; exact HG4.out, HF.out, HB4.out, HOw.out, HDi.out⟩
    case round =>
      clear HG HG4 HF HB4 HOw HDi HMk HEd HB3
      obtain ⟨k, F', E, hk, rfl, hG, hF, hB, hown, hdis⟩ := hrel
      have HG := Lib.hid hG
      have HF := Lib.hid hF
      have HB := Lib.hid hB
      have HOw := Lib.hid hown
      have HDi := Lib.hid hdis
      by_cases hlt : k < len2
      · by_cases h40 : k < 40
        · obtain ⟨xb, xo, rfl, hxb, hcell⟩ := (HI2.out.below hB (Nat.le_refl _) (by decide)).at (by decide) hlt
          have c1 := (hcell k hlt 0 (by decide)).1
          have c2 := (hcell k hlt 1 (by decide)).1
          rw [Nat.add_zero] at c1
          rw [← Nat.add_assoc] at c2
          generalize z2 k 0 = x at *
          generalize z2 k 1 = y at *
          have HC1 := Lib.hid c1
          have HC2 := Lib.hid c2
          have hk0 : (0 : Int) ≤ (k : Int) := by omega
          have hk1 : (k : Int) < (len2 : Int) := by omega
          have hk4 : (k : Int) < 40 := by omega
          clear hG hF hB hown hdis hcell hxb c1 c2
          go_wp2_with fail
          refine region_tail 11 (by kernel_rfl) (by kernel_rfl) fun w3 hS => ?_
          have d1 := hS.cell HC1.out
          have d2 := hS.cell HC2.out
          have hG3 := HG.out.frame (w' := w3) (fun j _ => hS.at j)
          have hP := gr_put b q F' _ x y w3 hG3
          obtain ⟨E', hE⟩ := putL_pre q L E x y
          rw [hE] at hP
          have HP := Lib.hid hP
          have HS := Lib.hid hS
          generalize putV q (L ++ E) x y = pv at *
          unfold GrEnds two at HP
          clear hG3 hP hE hS
          simp only [List.take_succ_cons, List.take_zero, List.drop_succ_cons, List.drop_zero]
          repeat still_step
          refine wpStill_nil ?_
          go_wp2_with fail
          go_fit HP.out
          rintro e w4 ⟨rfl, F4, hG4, hF4, hC4⟩
          have hz := HB.out.size
          have hz3 : w3.heap.size = wr.heap.size := by rw [HS.out.heap]
          have hB4 := HB.out.trans (HS.out.below.trans (hC4.below (by omega) fun j hj hjF => by have := HF.out j hjF; omega))
          have hF4' : ∀ j ∈ F4, w.heap.size ≤ j := fun j hj => by
            rcases hF4 j hj with h | h
            · exact HF.out j h
            · omega
          have ho4 : w4.ownsRow 0 61 2 vw W.length (edgeCells W) := owns_chg (HS.out.owns HOw.out) hC4 fun j hj hjF => HDi.out j hjF (mem_ownL.1 hj)
          have hd4 : ∀ j ∈ F4, vw.ownBlock ≠ some j := fun j hj h => by
            rcases hF4 j hj with h' | h'
            · exact HDi.out j h' h
            · have := owns_lt HOw.out j h
              omega
          have HG5 := Lib.hid hG4
          have HF5 := Lib.hid hF4'
          have HB5 := Lib.hid hB4
          have HO5 := Lib.hid ho4
          have HD5 := Lib.hid hd4
          clear hG4 hF4 hC4 hB4 hF4' ho4 hd4 hz hz3 d1 d2
          go_wp2_with fail
          go_roundw
          case rel => exact ⟨k + 1, F4, E', by omega, by go_num, HG5.out, HF5.out, HB5.out, HO5.out, HD5.out⟩
          case measure => simp [intOf]; omega
        · have h41 : ¬ ((k : Int) < 40) := by omega
          have hk1 : (k : Int) < (len2 : Int) := by omega
          have hU := gr_undo b q F' _ (L.length : Int) wr hG
          rw [(undo_back L E).1, (undo_back L E).2] at hU
          unfold GrEnds at hU
          have HU := Lib.hid hU
          clear hG hF hB hown hdis hU
          go_wp2_with fail
          go_fit HU.out
          rintro e w4 ⟨rfl, F4, hG4, hF4, hC4⟩
          have hz := HB.out.size
          have hB4 := HB.out.trans (hC4.below hz fun j hj hjF => by have := HF.out j hjF; omega)
          have ho4 : w4.ownsRow 0 61 2 vw W.length (edgeCells W) := owns_chg HOw.out hC4 fun j hj hjF => HDi.out j hjF (mem_ownL.1 hj)
          have hE4 := gr_edges b q F4 L w4 hG4 (tab_below HT.out hB4 (Nat.le_refl _))
          rw [HWq.out] at hE4
          have HE4 := Lib.hid hE4
          have HG5 := Lib.hid hG4
          have HB5 := Lib.hid hB4
          have HO5 := Lib.hid ho4
          clear hG4 hF4 hC4 hB4 ho4 hE4 hz
          go_wp2_with fail
          go_fit HE4.out
          rintro e w5 ⟨vx, rfl, hox, hB6⟩
          have hz5 := HB5.out.size
          have hG6 := HG5.out.below hB6 (Nat.le_refl _)
          have how : w5.ownsRow 0 61 2 vw W.length (edgeCells W) := owns_of_heap HO5.out fun j hj => hB6.block j (owns_lt HO5.out j hj)
          obtain ⟨ax, cx, rfl⟩ := owns_slice hox
          obtain ⟨aw, cw, rfl⟩ := owns_slice how
          have hSE := sameE_any ax aw W.length cx W.length cw W W w5 (owns_zero hox) how
          unfold SameEEnds at hSE
          rw [sameE_self] at hSE
          have HSE := Lib.hid hSE
          have HB6 := Lib.hid (HB5.out.trans (hB6.mono hz5))
          have HG6 := Lib.hid hG6
          clear hG6 how hox hSE hB6 hz5
          go_wp2_with fail
          go_fit HSE.out
          rintro e w6 ⟨rfl, hS6⟩
          have HMk := Lib.hid (gr_mark b q F4 L w6 (HG6.out.frame fun j _ => hS6.at j))
          have HB7 := Lib.hid (HB6.out.trans hS6.below)
          clear hS6
          go_wp2_with fail
          go_fit HMk.out
          rintro e w' ⟨rfl, rfl⟩
          go_wp2_with fail
          go_ret
          exact ⟨rfl, HB7.out⟩
      · obtain rfl : k = len2 := by omega
        have hU := gr_undo b q F' _ (L.length : Int) wr hG
        rw [(undo_back L E).1, (undo_back L E).2] at hU
        unfold GrEnds at hU
        have HU := Lib.hid hU
        clear hG hF hB hown hdis hU
        go_wp2_with fail
        go_fit HU.out
        rintro e w4 ⟨rfl, F4, hG4, hF4, hC4⟩
        have hz := HB.out.size
        have hB4 := HB.out.trans (hC4.below hz fun j hj hjF => by have := HF.out j hjF; omega)
        have ho4 : w4.ownsRow 0 61 2 vw W.length (edgeCells W) := owns_chg HOw.out hC4 fun j hj hjF => HDi.out j hjF (mem_ownL.1 hj)
        have hE4 := gr_edges b q F4 L w4 hG4 (tab_below HT.out hB4 (Nat.le_refl _))
        rw [HWq.out] at hE4
        have HE4 := Lib.hid hE4
        have HG5 := Lib.hid hG4
        have HB5 := Lib.hid hB4
        have HO5 := Lib.hid ho4
        clear hG4 hF4 hC4 hB4 ho4 hE4 hz
        go_wp2_with fail
        go_fit HE4.out
        rintro e w5 ⟨vx, rfl, hox, hB6⟩
        have hz5 := HB5.out.size
        have hG6 := HG5.out.below hB6 (Nat.le_refl _)
        have how : w5.ownsRow 0 61 2 vw W.length (edgeCells W) := owns_of_heap HO5.out fun j hj => hB6.block j (owns_lt HO5.out j hj)
        obtain ⟨ax, cx, rfl⟩ := owns_slice hox
        obtain ⟨aw, cw, rfl⟩ := owns_slice how
        have hSE := sameE_any ax aw W.length cx W.length cw W W w5 (owns_zero hox) how
        unfold SameEEnds at hSE
        rw [sameE_self] at hSE
        have HSE := Lib.hid hSE
        have HB6 := Lib.hid (HB5.out.trans (hB6.mono hz5))
        have HG6 := Lib.hid hG6
        clear hG6 how hox hSE hB6 hz5
        go_wp2_with fail
        go_fit HSE.out
        rintro e w6 ⟨rfl, hS6⟩
        have HMk := Lib.hid (gr_mark b q F4 L w6 (HG6.out.frame fun j _ => hS6.at j))
        have HB7 := Lib.hid (HB6.out.trans hS6.below)
        clear hS6
        go_wp2_with fail
        go_fit HMk.out
        rintro e w' ⟨rfl, rfl⟩
        go_wp2_with fail
        go_ret
        exact ⟨rfl, HB7.out⟩
  · have HB3 := Lib.hid (HB2.out.trans (hB3.mono HB2.out.size))
    clear hB3 hno
    go_wp2_with fail
    go_ret
    exact ⟨rfl, HB3.out⟩
end Go.Proofs.YtafdijcolponjaaDoor
