/- The contract of the document's Least (rings). Conditions: a graph that may be. -/
import Derived.Test.YtafdijcolponjaaDoorRingJ
namespace Go.Proofs.YtafdijcolponjaaDoor
open Go.RowKit

theorem src_one1 (w : World) (n : Int) (t : TypeId) : Src (w.alloc (.cells #[.int .i64 n] t)) (some ⟨w.heap.size, 0, none⟩) 1 1 1 (intl [n]) := by
  refine ⟨rfl, (fun h => by cases h), Nat.le_refl _, by unfold maxLen; omega, fun ad had j u hj => ?_, fun u hu => ?_⟩
  · cases had
    match j, hj with
    | 0, hj => cases hj; exact cell_at 0 (heap_new _ _) rfl
  · obtain ⟨z, _, rfl⟩ := List.mem_map.1 hu; rfl
def DLOut (W : World) (n : Nat) (L : List (Nat × Nat)) (i : Value) (wr : World) : Prop :=
  ∃ k : Nat, k ≤ n ∧ i = .int .i64 ((k : Int) + 1) ∧ Below W.heap.size W wr ∧ ∀ r, r < k → ((List.range n).findSome? fun a => onO n L r a) = none
def DLIn (W : World) (n k : Nat) (L : List (Nat × Nat)) (i : Value) (wr : World) : Prop :=
  ∃ a : Nat, a ≤ n ∧ i = .int .i64 a ∧ Below W.heap.size W wr ∧ ∀ b, b < a → onO n L k b = none

set_option maxRecDepth 20000 in
set_option maxHeartbeats 4000000 in
theorem dleast_any (n m c : Nat) (ad : Option Addr) (z : Nat → Nat → Int) (W : World) (hn : n ≤ 500) (hM : mayE n z m = true) (hE : EdgesIn W ad m z) :
    Calls Tryd.prog 82 #[.int .i64 n, .slice ad m c] W (SrcEnds (refL n (ofZ n z m)) W) := by
  have HE := Lib.hid hE
  have HOn : Hid (∀ (k a : Nat) (wa : World), k < n → a < n → EdgesIn wa ad m z → Calls Tryd.prog 105 #[.int .i64 n, .slice ad m c, .slice (some ⟨wa.heap.size, 0, none⟩) 1 1, .int .i64 ((k : Int) + 1)] (wa.alloc (.cells #[.int .i64 (a : Int)] 3)) (SrcEnds (onF n (ofZ n z m) a k [a]) (wa.alloc (.cells #[.int .i64 (a : Int)] 3)))) := fun k a wa hk ha hE' =>
    on_any n m c ad z hn hM k a 0 (k + 1) [a] (some ⟨wa.heap.size, 0, none⟩) 1 _ rfl rfl (fun x hx => by rw [List.mem_singleton.1 hx]; exact ha) (by omega) (by omega) (src_one1 wa (a : Int) 3) (hE'.below ((Below.refl wa.heap.size wa).alloc (Nat.le_refl _) _) (Nat.le_refl _))
  have HRf : Hid (refL n (ofZ n z m) = ((List.range n).findSome? fun r => (List.range n).findSome? fun a => onO n (ofZ n z m) r a).getD []) := rfl
  have HOo : Hid (∀ k a, onO n (ofZ n z m) k a = match onF n (ofZ n z m) a k [a] with | [] => none | x :: l => some (x :: l)) := fun _ _ => rfl
  generalize ofZ n z m = L at *
  clear hE hM
  go_enter Tryd.func82, Tryd.ntmps82
  go_wp2_with fail
  go_loopw [5] (fun i wr => DLOut W n L i wr) (fun i _ => n + 1 - (intOf i).toNat)
  case atStart => exact ⟨0, Nat.zero_le _, rfl, Below.refl _ _, fun r hr => absurd hr (Nat.not_lt_zero r)⟩
  case round =>
    obtain ⟨k, hk, rfl, hB, hall⟩ := hrel
    obtain ⟨wa, rfl⟩ : ∃ y, y = wr := ⟨_, rfl⟩
    have HAll := Lib.hid hall
    have HB := Lib.hid hB
    clear hall hB
    by_cases hlt : k < n
    · have hk1 : (k : Int) + 1 ≤ (n : Int) := by omega
      go_wp2_with fail
      go_loopw [6] (fun i wr => DLIn W n k L i wr) (fun i _ => n - (intOf i).toNat)
      case atStart => exact ⟨0, Nat.zero_le _, rfl, HB.out, fun r hr => absurd hr (Nat.not_lt_zero r)⟩
      case round =>
        clear HB
        obtain ⟨a, ha, rfl, hB, hall2⟩ := hrel
        obtain ⟨wb, rfl⟩ : ∃ y, y = wr := ⟨_, rfl⟩
        have HAll2 := Lib.hid hall2
        have HB := Lib.hid hB
        have hzb := hB.size
        clear hall2
        by_cases hal : a < n
        · have ha1 : (a : Int) < (n : Int) := by omega
          have hon := HOn.out k a wb hlt hal (HE.out.below hB (Nat.le_refl _))
          have hoo := HOo.out k a
          generalize onF n L a k [a] = res at *
          have HO := Lib.hid hon
          have HOk := Lib.hid hoo
          have HBn := Lib.hid (hB.alloc hzb (.cells #[.int .i64 (a : Int)] 3))
          clear hon hoo hB
          go_wp2_with fail
          go_fit HO.out
          rintro e w8 ⟨a8, c8, rfl, hs8, hB8⟩
          have HS8 := Lib.hid hs8
          have HB8 := Lib.hid (HBn.out.trans (hB8.mono (by have := HBn.out.size; exact this)))
          clear hs8 hB8
          cases res with
          | nil =>
            go_wp2_with fail
            go_roundw
            case rel =>
              refine ⟨a + 1, hal, by go_num, HB8.out, fun b hb => ?_⟩
              by_cases hba : b < a
              · exact HAll2.out b hba
              · obtain rfl : b = a := by omega
                exact HOk.out
            case measure => simp [intOf]; omega
          | cons y l =>
            have HF : Hid (refL n L = y :: l) := by
              show _ = _
              rw [HRf.out, findSome_first _ hlt (findSome_first _ hal HOk.out HAll2.out) HAll.out]; rfl
            have hl1 : (0 : Int) < (((y :: l).length : Nat) : Int) := by simp only [List.length_cons]; omega
            generalize y :: l = res at *
            go_wp2_with fail
            go_ret
            rw [HF.out]
            exact ⟨_, _, rfl, HS8.out, HB8.out⟩
        · obtain rfl : a = n := by omega
          clear hB
          go_wp2_with fail
          go_roundw
          case rel =>
            refine ⟨k + 1, hlt, by go_num, HB.out, fun r hr => ?_⟩
            by_cases hrk : r < k
            · exact HAll.out r hrk
            · obtain rfl : r = k := by omega
              exact List.findSome?_eq_none_iff.2 fun b hb => HAll2.out b (List.mem_range.1 hb)
          case measure => simp [intOf]; omega
    · obtain rfl : k = n := by omega
      have HF : Hid (refL k L = []) := by
        show _ = _
        rw [HRf.out, List.findSome?_eq_none_iff.2 (fun r hr => HAll.out r (List.mem_range.1 hr))]; rfl
      go_wp2_with fail
      go_ret
      rw [HF.out]
      exact ⟨none, 0, rfl, src_nil _, HB.out⟩
end Go.Proofs.YtafdijcolponjaaDoor
