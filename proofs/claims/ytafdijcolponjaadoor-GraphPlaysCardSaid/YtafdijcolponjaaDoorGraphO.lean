/- The contract of graph.Of. No condition but those in each statement. -/
import Derived.Test.YtafdijcolponjaaDoorGraphM
namespace Go.Proofs.YtafdijcolponjaaDoor
open Go.RowKit

def ofB (n : Int) (z : Nat → Nat → Int) (m : Nat) : Bool := decide (0 ≤ n ∧ n ≤ 500) && mayE n.toNat z m
def OfEnds (n : Int) (z : Nat → Nat → Int) (m : Nat) (w : World) (e : Ending) (w' : World) : Prop :=
  (ofB n z m = true ∧ GrNew n.toNat (ofZ n.toNat z m) w e w') ∨ (ofB n z m = false ∧ e = .returned (.tuple #[.pointer none, .int .i64 2]) ∧ Below w.heap.size w w')
def OfRel (w : World) (b n : Nat) (z : Nat → Nat → Int) (m : Nat) (i : Value) (wr : World) : Prop :=
  ∃ (k : Nat) (F : List Nat), k ≤ m ∧ i = .int .i64 k ∧ GrAt wr b F n (ofZ n z k) ∧ (∀ q ∈ F, w.heap.size ≤ q) ∧ Below w.heap.size w wr ∧ mayE n z k = true

theorem putV_no {n : Nat} {L : List (Nat × Nat)} {a z : Int} (h : (inG n a && inG n z) = false) : putV n L a z = (false, 2) := by
  unfold putV
  rw [if_neg (fun h' => by rw [h'.1, h'.2] at h; cases h)]
theorem putV_yes {n : Nat} {L : List (Nat × Nat)} {a z : Int} (h : (inG n a && inG n z) = true) : (putV n L a z).2 = 0 := by
  unfold putV
  rw [Bool.and_eq_true] at h
  rw [if_pos h]
  split <;> rfl

set_option maxRecDepth 20000 in
theorem gr_of (n : Int) (ad : Option Addr) (m c : Nat) (z : Nat → Nat → Int) (w : World) (h : EdgesIn w ad m z) :
    Calls Tryd.prog 46 #[.int .i64 n, .slice ad m c] w (OfEnds n z m w) := by
  by_cases hn : 0 ≤ n ∧ n ≤ 500
  · obtain ⟨q, rfl⟩ := Int.eq_ofNat_of_zero_le hn.1
    have HN := Lib.hid (gr_new q w (by omega))
    have HE := Lib.hid h
    have hm0 := h.1
    have hofB : ∀ z m, ofB (q : Int) z m = mayE q z m := fun z m => by unfold ofB; rw [decide_eq_true hn, Bool.true_and, Int.toNat_natCast]
    have HofB := Lib.hid hofB
    clear h hn hofB
    go_enter Tryd.func46, Tryd.ntmps46
    go_wp2_with fail
    go_fit HN.out
    rintro e w1 ⟨b, F, rfl, hG, hF, hB⟩
    have HG := Lib.hid hG
    have HF := Lib.hid hF
    have HB := Lib.hid hB
    clear hG hF hB
    go_wp2_with fail
    go_loopw [22] (fun i wr => OfRel w b q z m i wr) (fun i _ => m - (intOf i).toNat)
    case atStart => exact ⟨0, F, Nat.zero_le _, rfl, HG.out, HF.out, HB.out, rfl⟩
    case round =>
      clear HG HF HB
      obtain ⟨k, F', hk, rfl, hG, hF, hB, hmay⟩ := hrel
      by_cases hlt : k < m
      · obtain ⟨g, rfl, hg, hc⟩ := (HE.out.below hB (Nat.le_refl _)).2 (by omega)
        obtain ⟨cx, cy⟩ := hc k hlt
        have HM := Lib.hid (mayE_succ q z k)
        have HZ : Hid (ofZ q z (k + 1) = putL q (ofZ q z k) (z k 0) (z k 1)) := by show _ = _; rfl
        have HNo := Lib.hid (fun h => mayE_no (n := q) (z := z) (i := k) h hlt)
        have HMay := Lib.hid hmay
        generalize z k 0 = x at *
        generalize z k 1 = y at *
        generalize ofZ q z k = L at *
        have hG2 := hG.alloc (.cells #[.int .i64 x, .int .i64 y] 61)
        have HP := Lib.hid (gr_put b q F' L x y _ hG2)
        have HF := Lib.hid hF
        have HB := Lib.hid (hB.alloc hB.size (.cells #[.int .i64 x, .int .i64 y] 61))
        have hk0 : (0 : Int) ≤ (k : Int) := by omega
        have hk1 : (k : Int) < (m : Int) := by omega
        clear hc hG hG2 hF hB hmay
        cases hin : (inG q x && inG q y) with
        | true =>
          have hv := putV_yes (L := L) hin
          have HIn := Lib.hid hin
          generalize putV q L x y = pv at *
          obtain ⟨p1, p2⟩ := pv
          have hv' : p2 = 0 := hv
          subst hv'
          clear hv hin
          unfold two at HP
          go_wp2_with fail
          go_fit HP.out
          rintro e w2 ⟨rfl, F2, hG2, hF2, hC2⟩
          have hsz := HB.out.size
          have hB2 := HB.out.trans (hC2.below hsz fun j hj hF => by have := HF.out j hF; omega)
          have hF2' : ∀ j ∈ F2, w.heap.size ≤ j := fun j hj => by
            rcases hF2 j hj with h | h
            · exact HF.out j h
            · omega
          have HG2 := Lib.hid hG2
          have HF2 := Lib.hid hF2'
          have HB2 := Lib.hid hB2
          clear hG2 hF2 hC2 hB2 hF2' hsz
          go_wp2_with fail
          go_roundw
          case rel => exact ⟨k + 1, F2, by omega, by go_num, by rw [HZ.out]; exact HG2.out, HF2.out, HB2.out, by rw [HM.out, HMay.out, HIn.out]; rfl⟩
          case measure => simp [intOf]; omega
        | false =>
          rw [putV_no hin] at HP
          have HIn := Lib.hid hin
          clear hin
          unfold two at HP
          go_wp2_with fail
          go_fit HP.out
          rintro e w2 ⟨rfl, F2, hG2, hF2, hC2⟩
          have hsz := HB.out.size
          have HB2 := Lib.hid (HB.out.trans (hC2.below hsz fun j hj hF => by have := HF.out j hF; omega))
          clear hG2 hF2 hC2 hsz
          go_wp2_with fail
          go_ret2
          exact .inr ⟨by rw [HofB.out]; exact HNo.out HIn.out, rfl, HB2.out⟩
      · obtain rfl : k = m := by omega
        have HG := Lib.hid hG
        have HF := Lib.hid hF
        have HB := Lib.hid hB
        have HMay := Lib.hid hmay
        clear hG hF hB hmay
        go_wp2_with fail
        go_ret2
        refine .inl ⟨by rw [HofB.out]; exact HMay.out, b, F', rfl, HG.out, HF.out, HB.out⟩
  · have HN := Lib.hid (gnew_no n w (by omega))
    have HofB : Hid (ofB n z m = false) := by show _ = _; unfold ofB; rw [decide_eq_false hn]; rfl
    clear h hn
    go_enter Tryd.func46, Tryd.ntmps46
    go_wp2_with fail
    go_fit HN.out
    rintro e w1 ⟨rfl, rfl⟩
    go_wp2_with fail
    go_ret2
    exact .inr ⟨HofB.out, rfl, Below.refl _ _⟩
end Go.Proofs.YtafdijcolponjaaDoor
