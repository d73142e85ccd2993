/- The chapter's example (close), walked; the document's May (closures). Condition: where the table lies. -/
import Derived.Test.YtafdijcolponjaaDoorCloseH
namespace Go.Proofs.YtafdijcolponjaaDoor
open Go.RowKit

theorem cmay_any (n : Int) (ad : Option Addr) (m c : Nat) (z : Nat → Nat → Int) (w : World) (h : EdgesIn w ad m z) :
    Calls Tryd.prog 72 #[.int .i64 n, .slice ad m c] w fun e w' => e = .returned (.bool (ofB n z m)) ∧ w = w' := by
  have HM := Lib.hid (rg_may n ad m c z w h)
  clear h
  go_enter Tryd.func72, Tryd.ntmps72
  go_wp2_with fail
  go_fit HM.out
  rintro e w' ⟨rfl, rfl⟩
  go_wp2_with fail
  go_ret
  exact ⟨rfl, rfl⟩
/- What can be computed. -/
def viaC (L : List (Nat × Nat)) : Nat → Nat → Nat → Bool
  | 0, a, b => decide ((a, b) ∈ L)
  | k + 1, a, b => viaC L k a b || (viaC L k a k && viaC L k k b)
theorem viaC_eq (L : List (Nat × Nat)) : ∀ k a b, viaB L k a b = viaC L k a b
  | 0, a, b => viaB_zero
  | k + 1, a, b => by rw [viaB_succ, viaC_eq L k a b, viaC_eq L k a k, viaC_eq L k k b]; rfl
def fromC (n : Nat) (L : List (Nat × Nat)) (a : Nat) : List Nat := (List.range n).filter (viaC L n a)
def closeC (n : Nat) (L : List (Nat × Nat)) (k : Nat) : List (Nat × Nat) := (List.range k).flatMap fun a => (fromC n L a).map fun b => (a, b)
def roundC (n : Nat) (L : List (Nat × Nat)) : Bool := (List.range n).any fun a => viaC L n a a
def thinC (n : Nat) (L : List (Nat × Nat)) : List (Nat × Nat) := if roundC n L = true then edgesR n L n else (edgesR n L n).filter fun e => !((nextR n L e.1).any fun k => viaC L n k e.2)
theorem closeC_eq {n : Nat} {L : List (Nat × Nat)} (hL : ∀ e ∈ L, e.1 < n ∧ e.2 < n) (k : Nat) : closeL n L k = closeC n L k := by
  have h : ∀ a b, reachB L a b = viaC L n a b := fun a b => by rw [← viaB_reach hL, viaC_eq]
  have h2 : fromL n L = fromC n L := funext fun a => by
    unfold fromL fromC
    rw [show reachB L a = viaC L n a from funext (h a)]
  unfold closeL closeC
  rw [h2]
theorem thinC_eq {n : Nat} {L : List (Nat × Nat)} (hL : ∀ e ∈ L, e.1 < n ∧ e.2 < n) : thinL n L = thinC n L := by
  have h : reachB L = viaC L n := funext fun a => funext fun b => by rw [← viaB_reach hL, viaC_eq]
  have h3 : roundB n L = roundC n L := by unfold roundB roundC; rw [h]
  unfold thinL thinC overB
  rw [h3, h]
def wcz (i j : Nat) : Int := ((i + j : Nat) : Int)
theorem wc1 : ofB 3 wcz 2 = true := by decide
theorem wc2 : closeL (3 : Int).toNat (ofZ (3 : Int).toNat wcz 2) (3 : Int).toNat = [(0, 1), (0, 2), (1, 2)] := by
  rw [closeC_eq (by decide)]
  decide
theorem wc3 : ofB 3 (zL [(0, 1), (0, 2), (1, 2)]) 3 = true := by decide
theorem wc4 : (thinL (3 : Int).toNat (ofZ (3 : Int).toNat (zL [(0, 1), (0, 2), (1, 2)]) 3)).length = 2 := by
  rw [thinC_eq (by decide)]
  decide
theorem edgesIn_two (w : World) (t : TypeId) : EdgesIn (w.alloc (.cells #[.int .i64 0, .int .i64 1, .int .i64 1, .int .i64 2] t)) (some ⟨w.heap.size, 0, none⟩) 2 wcz := by
  refine ⟨by omega, fun _ => ⟨_, rfl, by simp, fun i hi => ?_⟩⟩
  match i, hi with
  | 0, _ => exact ⟨cell_at 0 (heap_new _ _) rfl, cell_at 1 (heap_new _ _) rfl⟩
  | 1, _ => exact ⟨cell_at 2 (heap_new _ _) rfl, cell_at 3 (heap_new _ _) rfl⟩

set_option maxRecDepth 20000 in
set_option maxHeartbeats 2000000 in
theorem cworks_any (w : World) (hT : TabIs w) : Calls Tryd.prog 73 #[] w (YesEnds w) := by
  have HT := Lib.hid hT
  have hb0 : Below w.heap.size w (w.alloc (.cells #[.int .i64 0, .int .i64 1, .int .i64 1, .int .i64 2] 61)) := (Below.refl _ _).alloc (Nat.le_refl _) _
  have HL := Lib.hid (cof_any 3 2 2 (some ⟨w.heap.size, 0, none⟩) wcz _ (edgesIn_two w 61) (tab_below hT hb0 (Nat.le_refl _)))
  have HB0 := Lib.hid hb0
  clear hT hb0
  go_enter Tryd.func73, Tryd.ntmps73
  go_wp2_with fail
  go_fit HL.out
  rintro e w1 ⟨hB, (⟨-, v, rfl, hown⟩ | ⟨hno, -⟩)⟩
  · rw [wc2] at hown
    obtain ⟨ad, c, rfl⟩ := owns_slice hown
    have hB1 := HB0.out.trans (hB.mono HB0.out.size)
    have HC := Lib.hid (thin_any 3 3 c ad _ w1 (edgesIn_owns hown) (tab_below HT.out hB1 (Nat.le_refl _)))
    have HB1 := Lib.hid hB1
    clear hown hB hB1 HL
    go_wp2_with fail
    go_fit HC.out
    rintro e w2 ⟨hB, (⟨-, v, rfl, hown⟩ | ⟨hno, -⟩)⟩
    · rw [wc4] at hown
      obtain ⟨ad2, c2, rfl⟩ := owns_slice hown
      have HB2 := Lib.hid (HB1.out.trans (hB.mono HB1.out.size))
      clear hown hB
      go_wp2_with fail
      go_ret
      exact ⟨rfl, HB2.out⟩
    · exact absurd (wc3.symm.trans hno) (by decide)
  · rw [wc1] at hno; cases hno
/-- What the closure of the closure is. -/
theorem closeL_twice {n : Nat} {L : List (Nat × Nat)} (hL : ∀ e ∈ L, e.1 < n ∧ e.2 < n) :
    closeL n (ofZ n (zL (closeL n L n)) (closeL n L n).length) n = closeL n L n :=
  closeL_congr (fun _ _ => (reach_congr (mem_zL closeL_inr)).trans (reach_close hL fun _ => Iff.rfl)) n
theorem closeL_thin {n : Nat} {L : List (Nat × Nat)} (hL : ∀ e ∈ L, e.1 < n ∧ e.2 < n) :
    closeL n (ofZ n (zL (thinL n L)) (thinL n L).length) n = closeL n L n :=
  closeL_congr (fun _ _ => (reach_congr (mem_zL (thinL_inr hL))).trans (reach_thin hL)) n
theorem ofB_zL {q : Nat} (hq : q ≤ 500) {R : List (Nat × Nat)} (h : ∀ e ∈ R, e.1 < q ∧ e.2 < q) : ofB q (zL R) R.length = true := by
  unfold ofB
  rw [Bool.and_eq_true]
  exact ⟨decide_eq_true ⟨by omega, by omega⟩, may_zL h⟩
end Go.Proofs.YtafdijcolponjaaDoor
