/- The chapter's example works. Condition: where the table lies. -/
import Derived.Test.YtafdijcolponjaaDoorGraphO
import Derived.Test.YtafdijcolponjaaDoorBitsE
namespace Go.Proofs.YtafdijcolponjaaDoor
open Go.RowKit

def wz (_ j : Nat) : Int := if j = 1 then 1 else 0
theorem w1 : ofB 2 wz 1 = true := by decide
theorem w2 : ofZ 2 wz 1 = [(0, 1)] := by decide
theorem w3 : putV 2 [(0, 1)] 1 0 = (true, 0) := by decide
theorem w4 : putL 2 [(0, 1)] 1 0 = [(0, 1), (1, 0)] := by decide
theorem w5 : undoC [(0, 1), (1, 0)] 1 = 0 := by decide
theorem w6 : undoL [(0, 1), (1, 0)] 1 = [(0, 1)] := by decide
theorem w7 : hasR [(0, 1)] 0 1 = true := by decide
theorem w8 : hasR [(0, 1)] 1 0 = false := by decide
theorem w9 : edgesR 2 [(0, 1)] 2 = [(0, 1)] := by decide

theorem edgesIn_one (w : World) (x y : Int) (z : Nat → Nat → Int) (hx : z 0 0 = x) (hy : z 0 1 = y) (t : TypeId) : EdgesIn (w.alloc (.cells #[.int .i64 x, .int .i64 y] t)) (some ⟨w.heap.size, 0, none⟩) 1 z := by
  refine ⟨by omega, fun _ => ⟨_, rfl, by simp, fun i hi => ?_⟩⟩
  obtain rfl : i = 0 := by omega
  rw [hx, hy]
  exact ⟨cell_at 0 (heap_new _ _) rfl, cell_at 1 (heap_new _ _) rfl⟩

theorem gworks_any (w : World) (hT : TabIs w) : Calls Tryd.prog 41 #[] w (YesEnds w) := by
  have HO := Lib.hid (gr_of 2 (some ⟨w.heap.size, 0, none⟩) 1 1 wz _ (edgesIn_one w 0 1 wz rfl rfl 61))
  have HT := Lib.hid hT
  clear hT
  go_enter Tryd.func41, Tryd.ntmps41
  go_wp2_with fail
  go_fit HO.out
  rintro e wa (⟨-, b, F, rfl, hG, hF, hB⟩ | ⟨h, -⟩)
  case inr => rw [w1] at h; cases h
  rw [show (2 : Int).toNat = 2 from rfl, w2] at hG
  have hB1 : Below w.heap.size w wa := ((Below.refl _ w).alloc (Nat.le_refl _) (.cells #[.int .i64 0, .int .i64 1] 61)).trans (hB.mono (by simp))
  have HM := Lib.hid (gr_mark b 2 F _ wa hG)
  have hP := gr_put b 2 F _ 1 0 wa hG
  rw [w3, w4] at hP
  unfold GrEnds two at hP
  have HP := Lib.hid hP
  have HB1 := Lib.hid hB1
  have HF := Lib.hid (fun k hk => (by have := hF k hk; simp at this; omega : w.heap.size ≤ k) : ∀ k ∈ F, w.heap.size ≤ k)
  clear hP hG hB hB1 hF
  go_wp2_with fail
  go_fit HM.out
  rintro e w' ⟨rfl, rfl⟩
  go_wp2_with fail
  go_fit HP.out
  rintro e wb ⟨rfl, F2, hG2, hF2, hC2⟩
  have hz1 := HB1.out.size
  have hB2 := HB1.out.trans (hC2.below hz1 fun j hj hF => by have := HF.out j hF; omega)
  have hF2' : ∀ j ∈ F2, w.heap.size ≤ j := fun j hj => by
    rcases hF2 j hj with h | h
    · exact HF.out j h
    · omega
  have hU := gr_undo b 2 F2 _ 1 wb hG2
  rw [w5, w6] at hU
  unfold GrEnds at hU
  have HU := Lib.hid hU
  have HB2 := Lib.hid hB2
  have HF2 := Lib.hid hF2'
  clear hU hG2 hC2 hB2 hF2 hF2'
  go_wp2_with fail
  go_fit HU.out
  rintro e wc ⟨rfl, F3, hG3, hF3, hC3⟩
  have hz2 := HB2.out.size
  have hB3 := HB2.out.trans (hC3.below hz2 fun j hj hF => by have := HF2.out j hF; omega)
  have h7 := gr_has b 2 F3 _ 0 1 wc hG3
  have h8 := gr_has b 2 F3 _ 1 0 wc hG3
  have h9 := gr_edges b 2 F3 _ wc hG3 (tab_below HT.out hB3 (Nat.le_refl _))
  rw [w7] at h7
  rw [w8] at h8
  rw [w9] at h9
  have H7 := Lib.hid h7
  have H8 := Lib.hid h8
  have H9 := Lib.hid h9
  have HB3 := Lib.hid hB3
  clear h7 h8 h9 hG3 hF3 hC3 hB3
  go_wp2_with fail
  go_fit H7.out
  rintro e w' ⟨rfl, rfl⟩
  go_wp2_with fail
  go_fit H8.out
  rintro e w' ⟨rfl, rfl⟩
  go_wp2_with fail
  go_fit H9.out
  rintro e wd ⟨v, rfl, hown, hB4⟩
  obtain ⟨ad, c, rfl⟩ := owns_slice hown
  have HB4 := Lib.hid (HB3.out.trans (hB4.mono HB3.out.size))
  clear hown hB4
  go_wp2_with fail
  go_ret
  exact ⟨rfl, HB4.out⟩
end Go.Proofs.YtafdijcolponjaaDoor
