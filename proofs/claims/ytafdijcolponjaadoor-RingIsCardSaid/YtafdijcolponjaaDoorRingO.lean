/- The contract of the document's Is (rings). Conditions: those in the statement. -/
import Derived.Test.YtafdijcolponjaaDoorRingM
namespace Go.Proofs.YtafdijcolponjaaDoor
open Go.RowKit

def okM (x : List Int) (L : List (Nat × Nat)) (i : Nat) : Bool := decide (x.getD 0 0 ≤ x.getD i 0) && okR x L i
theorem ringB_okM {x : List Int} {L : List (Nat × Nat)} (hx : x ≠ []) : ringB x L = (List.range x.length).all fun i => okM x L i := by
  unfold ringB
  rw [decide_eq_true hx, Bool.true_and, Bool.eq_iff_iff, Bool.and_eq_true, decide_eq_true_iff, List.all_eq_true, List.all_eq_true]
  constructor
  · rintro ⟨h1, h2⟩ i hi
    unfold okM
    rw [Bool.and_eq_true, decide_eq_true_iff]
    exact ⟨h1 i (List.mem_range.1 hi), h2 i hi⟩
  · intro h
    refine ⟨fun i hi => ?_, fun i hi => ?_⟩
    · have := h i (List.mem_range.2 hi)
      unfold okM at this
      rw [Bool.and_eq_true, decide_eq_true_iff] at this
      exact this.1
    · have := h i hi
      unfold okM at this
      rw [Bool.and_eq_true, decide_eq_true_iff] at this
      exact this.2
def DIsRel (w : World) (x : List Int) (L : List (Nat × Nat)) (i : Value) (wr : World) : Prop :=
  ∃ k : Nat, k ≤ x.length ∧ i = .int .i64 k ∧ Below w.heap.size w wr ∧ ∀ j, j < k → okM x L j = true
theorem edgesIn_drewN {w : World} {ad : Option Addr} {m k : Nat} {z : Nat → Nat → Int} (h : EdgesIn w ad m z) : EdgesIn (w.drewN k) ad m z := h.below (below_drewN (B := w.heap.size) k) (Nat.le_refl _)
theorem src_take {w : World} {b o n c k : Nat} {l : List Int} (h : Src w (some ⟨b, o, none⟩) n c 1 (intl l)) (hk : k ≤ n) : Src w (some ⟨b, o, none⟩) k c 1 (intl (l.take k)) := by
  have hl : l.length = n := by have := h.1; simpa [intl] using this
  refine ⟨by simp [intl]; omega, (fun e => by cases e), Nat.le_trans hk h.2.2.1, h.2.2.2.1, fun ad had j u hj => ?_, fun u hu => ?_⟩
  · refine h.2.2.2.2.1 ad had j u ?_
    have hjk := (List.getElem?_eq_some_iff.1 hj).1
    rw [show intl (l.take k) = (intl l).take k by simp [intl, List.map_take], List.getElem?_take_of_lt (by simpa [intl] using (by simp [intl] at hjk; omega : j < k))] at hj
    exact hj
  · obtain ⟨z, _, rfl⟩ := List.mem_map.1 hu; rfl

set_option maxRecDepth 20000 in
set_option maxHeartbeats 4000000 in
theorem dis_any (n : Int) (ax : Option Addr) (cx : Nat) (x : List Int) (ad : Option Addr) (m c : Nat) (z : Nat → Nat → Int) (w : World) (hx : Src w ax x.length cx 1 (intl x)) (hE : EdgesIn w ad m z) :
    Calls Tryd.prog 84 #[.int .i64 n, .slice ax x.length cx, .slice ad m c] w (RgIsEnds n x z m w) := by
  have hmx : maxLen = 9223372036854775807 := rfl
  have hcx := hx.2.2.2.1
  have hlx := hx.2.2.1
  have HM := Lib.hid (rg_may n ad m c z w hE)
  have HX := Lib.hid hx
  have HE := Lib.hid hE
  unfold RgIsEnds
  obtain ⟨bb, hbb⟩ : ∃ b, (ofB n z m && ringB x (ofZ n.toNat z m)) = b := ⟨_, rfl⟩
  rw [hbb]
  have HBb := Lib.hid hbb
  clear hE hx hbb
  cases hyes : ofB n z m with
  | false =>
    rw [hyes] at HM
    have HF : Hid (bb = false) := by show _ = _; rw [← HBb.out, hyes, Bool.false_and]
    clear hyes
    go_enter Tryd.func84, Tryd.ntmps84
    go_wp2_with fail
    go_fit HM.out
    rintro e w' ⟨rfl, rfl⟩
    go_wp2_with fail
    go_ret
    exact ⟨ret_bool HF.out.symm, Below.refl _ _⟩
  | true =>
    rw [hyes] at HM
    have hMy : mayE n.toNat z m = true := by
      unfold ofB at hyes
      rw [Bool.and_eq_true] at hyes
      exact hyes.2
    by_cases hx0 : x = []
    · subst hx0
      have HF : Hid (bb = false) := by show _ = _; rw [← HBb.out]; simp [ringB]
      clear hyes hMy
      simp only [List.length_nil]
      go_enter Tryd.func84, Tryd.ntmps84
      go_wp2_with fail
      go_fit HM.out
      rintro e w' ⟨rfl, rfl⟩
      go_wp2_with fail
      go_ret
      exact ⟨ret_bool HF.out.symm, Below.refl _ _⟩
    · have hl0 : 0 < x.length := List.length_pos_iff.2 hx0
      have HBd : Hid (bb = (List.range x.length).all fun i => okM x (ofZ n.toNat z m) i) := by
        show _ = _
        rw [← HBb.out, hyes, Bool.true_and, ringB_okM hx0]
      have HHas : Hid (∀ (a b : Int) (W : World) (N : Nat), EdgesIn W ad m z → Calls Tryd.prog 107 #[.slice ad m c, .int .i64 a, .int .i64 b] (W.drewN N) fun e w' => e = .returned (.bool (hasR (ofZ n.toNat z m) a b)) ∧ w' = W.drewN N) := fun a b W N hW => by
        have h := dhas_any ad m c z a b (W.drewN N) (edgesIn_drewN hW)
        rw [hasZ_ofZ hMy] at h
        exact h.mono fun e w' h => ⟨h.1, h.2.symm⟩
      obtain ⟨b1, o1, rfl, -⟩ := HX.out.plain hl0
      have hne0 : ((x.length : Int) == 0) = false := by rw [beq_eq_false_iff_ne]; omega
      have hne1 : ¬ (x.length : Int) = 0 := by omega
      have hl0' : (0 : Int) < (x.length : Int) := by omega
      have hlcx : (x.length : Int) ≤ (cx : Int) := by omega
      generalize ofZ n.toNat z m = L at *
      clear hyes hMy hx0 HBb
      go_enter Tryd.func84, Tryd.ntmps84
      go_wp2_with fail
      go_fit HM.out
      rintro e w' ⟨rfl, rfl⟩
      go_wp2_with fail
      go_loopw [7] (fun i wr => DIsRel w x L i wr) (fun i _ => x.length - (intOf i).toNat)
      case atStart => exact ⟨0, Nat.zero_le _, rfl, Below.refl _ _, fun j hj => absurd hj (Nat.not_lt_zero j)⟩
      case round =>
        obtain ⟨k, hk, rfl, hB, hall⟩ := hrel
        obtain ⟨wa, rfl⟩ : ∃ y, y = wr := ⟨_, rfl⟩
        have HAll := Lib.hid hall
        have HB := Lib.hid hB
        by_cases hlt : k < x.length
        · have hr : (k + 1) % x.length < x.length := Nat.mod_lt _ hl0
          have hsa := HX.out.belowAll hB (Nat.le_refl _)
          have hEa := HE.out.below hB (Nat.le_refl _)
          obtain ⟨b2, o2, he2, hc2⟩ := hsa.plain hl0
          cases he2
          have c0 := hc2 0 hl0
          have ca := hc2 k hlt
          have cy := hc2 _ hr
          rw [Nat.add_zero] at c0
          have hrem : ((k : Int) + 1).tmod (x.length : Int) = (((k + 1) % x.length : Nat) : Int) := by
            rw [Int.tmod_eq_emod_of_nonneg (by omega)]
            exact (Int.natCast_emod (k + 1) x.length).symm
          have hin := fun N => hasint_any (some ⟨b1, o1, none⟩) k cx (x.take k) (x.getD k 0) (wa.drewN N) (src_drewN (src_take hsa hk))
          have HHs := Lib.hid (fun N => HHas.out (x.getD k 0) (x.getD ((k + 1) % x.length) 0) wa N hEa)
          have HOk : Hid (okM x L k = (decide (x.getD 0 0 ≤ x.getD k 0) && (decide (x.getD k 0 ∉ x.take k) && hasR L (x.getD k 0) (x.getD ((k + 1) % x.length) 0)))) := rfl
          have HFa : Hid (okM x L k = false → bb = false) := fun h => HBd.out.trans (List.all_eq_false.2 ⟨k, List.mem_range.2 hlt, by rw [h]; simp⟩)
          have HTr : Hid (okM x L k = true → ∀ j, j < k + 1 → okM x L j = true) := fun h j hj => by
            by_cases hjk : j < k
            · exact HAll.out j hjk
            · obtain rfl : j = k := by omega
              exact h
          generalize (k + 1) % x.length = r at *
          generalize x.getD r 0 = y at *
          generalize x.getD k 0 = a at *
          generalize x.getD 0 0 = x0 at *
          have hk0 : (0 : Int) ≤ (k : Int) := by omega
          have hk1 : (k : Int) < (x.length : Int) := by omega
          have hkc : (k : Int) ≤ (cx : Int) := by omega
          have hr0 : (0 : Int) ≤ (r : Int) := by omega
          have hr1 : (r : Int) < (x.length : Int) := by omega
          clear hall hsa hEa hc2 hB
          by_cases hlo : a < x0
          · have HF := Lib.hid (HFa.out (by rw [HOk.out, (decide_eq_false (by omega) : decide (x0 ≤ a) = false), Bool.false_and]))
            clear hin
            go_wp2_with fail
            go_quiet (fail)
            go_wp2_with fail
            go_ret
            exact ⟨ret_bool HF.out.symm, HB.out.trans (below_drewN _)⟩
          · have hlo' : decide (a < x0) = false := decide_eq_false hlo
            by_cases hm : a ∈ x.take k
            · have HF := Lib.hid (HFa.out (by rw [HOk.out, (decide_eq_false (fun h => h hm) : decide (a ∉ x.take k) = false), Bool.false_and, Bool.and_false]))
              have HIn : Hid (∀ N, Calls Tryd.prog 96 #[.slice (some ⟨b1, o1, none⟩) k cx, .int .i64 a] (wa.drewN N) fun e w' => e = .returned (.bool true) ∧ w' = wa.drewN N) := fun N =>
                (hin N).mono fun e w' h => ⟨by rw [h.1, decide_eq_true hm], h.2.symm⟩
              clear hin hm
              go_wp2_with fail
              go_quiet (first | (go_at_call 96; exact Calls.quiet_of_same (HIn.out _)) | fail)
              go_wp2_with fail
              go_ret
              exact ⟨ret_bool HF.out.symm, HB.out.trans (below_drewN _)⟩
            · have HIn : Hid (∀ N, Calls Tryd.prog 96 #[.slice (some ⟨b1, o1, none⟩) k cx, .int .i64 a] (wa.drewN N) fun e w' => e = .returned (.bool false) ∧ w' = wa.drewN N) := fun N =>
                (hin N).mono fun e w' h => ⟨by rw [h.1, decide_eq_false hm], h.2.symm⟩
              cases hh : hasR L a y with
              | false =>
                have HF := Lib.hid (HFa.out (by rw [HOk.out, hh, Bool.and_false, Bool.and_false]))
                rw [hh] at HHs
                clear hin hm hh
                go_wp2_with fail
                go_quiet (first | (go_at_call 96; exact Calls.quiet_of_same (HIn.out _)) | (go_at_call 107; exact Calls.quiet_of_same (HHs.out _)) | fail)
                go_wp2_with fail
                go_ret
                exact ⟨ret_bool HF.out.symm, HB.out.trans (below_drewN _)⟩
              | true =>
                have HT := Lib.hid (HTr.out (by rw [HOk.out, hh, (decide_eq_true (by omega) : decide (x0 ≤ a) = true), (decide_eq_true hm : decide (a ∉ x.take k) = true)]; rfl))
                rw [hh] at HHs
                clear hin hm hh
                go_wp2_with fail
                go_quiet (first | (go_at_call 96; exact Calls.quiet_of_same (HIn.out _)) | (go_at_call 107; exact Calls.quiet_of_same (HHs.out _)) | fail)
                go_wp2_with fail
                go_roundw
                case rel => exact ⟨k + 1, hlt, by go_num, HB.out.trans (below_drewN _), HT.out⟩
                case measure => simp [intOf]; omega
        · obtain rfl : k = x.length := by omega
          have HF : Hid (bb = true) := HBd.out.trans (List.all_eq_true.2 fun i hi => HAll.out i (List.mem_range.1 hi))
          clear hall hB
          go_wp2_with fail
          go_ret
          exact ⟨ret_bool HF.out.symm, HB.out⟩
end Go.Proofs.YtafdijcolponjaaDoor
