/- GraphNew and GraphNone return true for every input. Condition: where the table lies. -/
import Derived.Test.YtafdijcolponjaaDoorGraphP
import Derived.Test.YtafdijcolponjaaDoorGraphN
namespace Go.Proofs.YtafdijcolponjaaDoor
open Go.RowKit

theorem edgesR_none (n k : Nat) : edgesR n [] k = [] := by
  induction k with
  | zero => rfl
  | succ k ih => rw [edgesR_succ, ih]; simp [nextR, hasR]

theorem new_walk (n : Int) (w : World) (_hn : (Lit.int .i64 n).wf = true) (hT : TabIs w) :
    Calls Tryd.prog 7 #[.int .i64 n] w (YesEnds w) := by
  by_cases h0 : n < 0
  · have HN := Lib.hid (gnew_no n w (.inl h0))
    have HW := Lib.hid (gworks_any w hT)
    clear hT _hn
    go_enter Tryd.func7, Tryd.ntmps7
    go_wp2_with fail
    go_fit HN.out
    rintro e w' ⟨rfl, rfl⟩
    go_wp2_with fail
    go_fit HW.out
    rintro e w' ⟨rfl, hB⟩
    have HB := Lib.hid hB
    clear hB
    go_wp2_with fail
    go_ret
    exact ⟨rfl, HB.out⟩
  · by_cases h1 : 500 < n
    · have HN := Lib.hid (gnew_no n w (.inr h1))
      have HW := Lib.hid (gworks_any w hT)
      clear hT _hn
      go_enter Tryd.func7, Tryd.ntmps7
      go_wp2_with fail
      go_fit HN.out
      rintro e w' ⟨rfl, rfl⟩
      go_wp2_with fail
      go_fit HW.out
      rintro e w' ⟨rfl, hB⟩
      have HB := Lib.hid hB
      clear hB
      go_wp2_with fail
      go_ret
      exact ⟨rfl, HB.out⟩
    · obtain ⟨m, rfl⟩ := Int.eq_ofNat_of_zero_le (show 0 ≤ n by omega)
      have HN := Lib.hid (gr_new m w (by omega))
      have HT := Lib.hid hT
      have h2 : ¬ ((m : Int) < 0) := h0
      have h3 : ¬ (500 < (m : Int)) := h1
      clear hT _hn h0 h1
      go_enter Tryd.func7, Tryd.ntmps7
      go_wp2_with fail
      go_fit HN.out
      rintro e w1 ⟨b, F, rfl, hG, hF, hB⟩
      have hTw := tab_below HT.out hB (Nat.le_refl _)
      have H1 := Lib.hid (gr_len b m F _ w1 hG)
      have H2 := Lib.hid (gr_mark b m F _ w1 hG)
      have h3' := gr_edges b m F _ w1 hG hTw
      rw [edgesR_none] at h3'
      have H3 := Lib.hid h3'
      have HB := Lib.hid hB
      clear hG hF hB hTw h3'
      go_wp2_with fail
      go_fit H1.out
      rintro e w' ⟨rfl, rfl⟩
      go_wp2_with fail
      go_fit H2.out
      rintro e w' ⟨rfl, rfl⟩
      go_wp2_with fail
      go_fit H3.out
      rintro e w2 ⟨v, rfl, hown, hB2⟩
      obtain ⟨ad, c, rfl⟩ := owns_slice hown
      have hB3 := HB.out.trans (hB2.mono HB.out.size)
      have HW := Lib.hid (gworks_any w2 (tab_below HT.out hB3 (Nat.le_refl _)))
      have HB3 := Lib.hid hB3
      clear hown hB2 hB3
      go_wp2_with fail
      go_fit HW.out
      rintro e w3 ⟨rfl, hB4⟩
      have HB4 := Lib.hid (HB3.out.trans (hB4.mono HB3.out.size))
      clear hB4
      go_wp2_with fail
      go_ret
      exact ⟨rfl, HB4.out⟩

set_option maxRecDepth 20000 in
set_option maxHeartbeats 1000000 in
theorem gnone_walk (a z : Int) (w : World) (_ha : (Lit.int .i64 a).wf = true) (_hz : (Lit.int .i64 z).wf = true) (hT : TabIs w) :
    Calls Tryd.prog 10 #[.int .i64 a, .int .i64 z] w (YesEnds w) := by
  have HT := Lib.hid hT
  clear hT _ha _hz
  go_enter Tryd.func10, Tryd.ntmps10
  obtain ⟨w1, hw1⟩ : ∃ w1, w1 = w.alloc (.cells #[.slice none 0 0, .slice none 0 0, .slice none 0 0, .bool false] 77) := ⟨_, rfl⟩
  have hn : NoGraph w1 none := .inl rfl
  have he : NoGraph w1 (some ⟨w.heap.size, 0, none⟩) := .inr ⟨_, rfl, by rw [hw1]; exact cell_at 3 (heap_new _ _) rfl⟩
  have hB : Below w.heap.size w w1 := by rw [hw1]; exact (Below.refl _ w).alloc (Nat.le_refl _) _
  have h1 := put_none none a z w1 hn
  have h2 := put_none _ a z w1 he
  unfold two at h1 h2
  have H1 := Lib.hid h1
  have H2 := Lib.hid h2
  have H3 := Lib.hid (has_none none a z w1 hn)
  have H4 := Lib.hid (has_none _ a z w1 he)
  have H5 := Lib.hid (undo_none none a w1 hn)
  have H6 := Lib.hid (undo_none _ a w1 he)
  have H7 := Lib.hid (mark_none none w1 hn)
  have H8 := Lib.hid (len_none none w1 hn)
  have H9 := Lib.hid (mark_none _ w1 he)
  have H10 := Lib.hid (len_none _ w1 he)
  have H11 := Lib.hid (next_none none a w1 hn)
  have H12 := Lib.hid (back_none none a w1 hn)
  have H13 := Lib.hid (edges_none none w1 hn)
  have H14 := Lib.hid (next_none _ a w1 he)
  have H15 := Lib.hid (back_none _ a w1 he)
  have H16 := Lib.hid (edges_none _ w1 he)
  have HW := Lib.hid (gworks_any w1 (tab_below HT.out hB (Nat.le_refl _)))
  have HB := Lib.hid hB
  have HE := Lib.hid hw1
  clear hn he hB h1 h2 hw1
  go_wp2_with fail
  rw [← HE.out]
  go_fit H1.out
  rintro e w' ⟨rfl, rfl⟩
  go_wp2_with fail
  go_fit H2.out
  rintro e w' ⟨rfl, rfl⟩
  go_wp2_with fail
  go_fit H3.out
  rintro e w' ⟨rfl, rfl⟩
  go_wp2_with fail
  go_fit H4.out
  rintro e w' ⟨rfl, rfl⟩
  go_wp2_with fail
  go_fit H5.out
  rintro e w' ⟨rfl, rfl⟩
  go_wp2_with fail
  go_fit H6.out
  rintro e w' ⟨rfl, rfl⟩
  go_wp2_with fail
  go_fit H7.out
  rintro e w' ⟨rfl, rfl⟩
  go_wp2_with fail
  go_fit H8.out
  rintro e w' ⟨rfl, rfl⟩
  go_wp2_with fail
  go_fit H9.out
  rintro e w' ⟨rfl, rfl⟩
  go_wp2_with fail
  go_fit H10.out
  rintro e w' ⟨rfl, rfl⟩
  go_wp2_with fail
  go_fit H11.out
  rintro e w' ⟨rfl, rfl⟩
  go_wp2_with fail
  go_fit H12.out
  rintro e w' ⟨rfl, rfl⟩
  go_wp2_with fail
  go_fit H13.out
  rintro e w' ⟨rfl, rfl⟩
  go_wp2_with fail
  go_fit H14.out
  rintro e w' ⟨rfl, rfl⟩
  go_wp2_with fail
  go_fit H15.out
  rintro e w' ⟨rfl, rfl⟩
  go_wp2_with fail
  go_fit H16.out
  rintro e w' ⟨rfl, rfl⟩
  go_wp2_with fail
  go_fit HW.out
  rintro e w3 ⟨rfl, hB4⟩
  have HB4 := Lib.hid (HB.out.trans (hB4.mono HB.out.size))
  clear hB4
  go_wp2_with fail
  go_ret
  exact ⟨rfl, HB4.out⟩
end Go.Proofs.YtafdijcolponjaaDoor
