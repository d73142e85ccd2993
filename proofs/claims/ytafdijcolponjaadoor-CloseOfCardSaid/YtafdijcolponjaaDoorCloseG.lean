/- The contract of the document's Of (close). Conditions: a graph that may be. -/
import Derived.Test.YtafdijcolponjaaDoorCloseF
namespace Go.Proofs.YtafdijcolponjaaDoor
open Go.RowKit

def RCOut (w : World) (n : Nat) (L : List (Nat × Nat)) (v i : Value) (wr : World) : Prop :=
  ∃ k : Nat, k ≤ n ∧ i = .int .i64 k ∧ wr.ownsRow w.heap.size 61 2 v (closeL n L k).length (edgeCells (closeL n L k)) ∧ Below w.heap.size w wr

set_option maxRecDepth 20000 in
set_option maxHeartbeats 1000000 in
theorem rof_any (n m c : Nat) (ad : Option Addr) (z : Nat → Nat → Int) (w : World) (hn : n ≤ 500) (hE : EdgesIn w ad m z) (hM : mayE n z m = true) :
    Calls Tryd.prog 77 #[.int .i64 n, .slice ad m c] w (EdgeEnds (closeL n (ofZ n z m) n) w) := by
  have HE := Lib.hid hE
  have HM := Lib.hid hM
  have hown := World.ownsRow_made (base := w.heap.size) (e := 61) (size := 2) w #[] 0 (Nat.le_refl _) (by decide) rfl
  have HO := Lib.hid hown
  obtain ⟨L, hLq⟩ : ∃ L, ofZ n z m = L := ⟨_, rfl⟩
  rw [hLq]
  have HLq := Lib.hid hLq
  clear hown hE hM hLq
  go_enter Tryd.func77, Tryd.ntmps77
  go_wp2_with fail
  go_loopw [5, 6] (fun v i wr => RCOut w n L v i wr) (fun _ i _ => n - (intOf i).toNat)
  case atStart => exact ⟨0, by omega, rfl, HO.out, (Below.refl _ _).alloc (Nat.le_refl _) _⟩
  case round =>
    clear HO
    obtain ⟨k, hk, rfl, hown, hB⟩ := hrel
    obtain ⟨wA, rfl⟩ : ∃ x, x = wr := ⟨_, rfl⟩
    obtain ⟨vA, rfl⟩ : ∃ x, x = u5 := ⟨_, rfl⟩
    by_cases hlt : k < n
    · have hA := rfrom_any n m c k ad z wA hn (HE.out.below hB (Nat.le_refl _)) HM.out hlt
      rw [HLq.out] at hA
      unfold ListEnds at hA
      have HA := Lib.hid hA
      have HEL := Lib.hid (closeL_succ n L k)
      have HLn := Lib.hid (closeL_len n L k)
      have HO := Lib.hid hown
      have HB := Lib.hid hB
      have hll := fromL_len n L k
      have hkn : k * n ≤ 250000 := by
        have := Nat.mul_le_mul (show k ≤ 500 by omega) hn
        omega
      generalize fromL n L k = l at *
      have HLl := Lib.hid hll
      generalize closeL n L k = E at *
      have hk0 : (0 : Int) ≤ (k : Int) := by omega
      have hk1 : (k : Int) < (n : Int) := by omega
      clear hown hB hA hll
      go_wp2_with fail
      go_fit HA.out
      rintro e w1 ⟨v2, rfl, hown2, hB2⟩
      obtain ⟨ad2, c2, rfl⟩ := owns_slice hown2
      have hsz := HB.out.size
      have hs2 := hB2.size
      have HB2 := Lib.hid (HB.out.trans (hB2.mono hsz))
      have HO2 := Lib.hid hown2
      have hx : ∀ q, vA.ownBlock = some q → (Value.slice ad2 l.length c2).ownBlock ≠ some q := fun q hq h2 => by
        have a1 := owns_lt HO.out q hq
        have a2 := (World.ownsRow.lt hown2 q h2).1
        omega
      have HX := Lib.hid hx
      have HO1 := Lib.hid (owns_of_heap HO.out fun q hq => hB2.block q (owns_lt HO.out q hq))
      clear hown2 hB2 hx
      have hl63 : (l.length : Int) ≤ 9223372036854775807 := by have := HLl.out; omega
      go_wp2_with fail
      go_loopw [5, 8] (fun v i wr2 => EdgeIn w E k l wA.heap.size (.slice ad2 l.length c2) v i wr2) (fun _ i _ => l.length - (intOf i).toNat)
      case atStart =>
        exact ⟨0, by omega, rfl, by simpa using HO1.out, HB2.out, HO2.out, HX.out⟩
      case round =>
        clear HO HO1 HX HB HB2 HO2
        obtain ⟨j, hj, rfl, hown, hB, hown2, hx⟩ := hrel
        by_cases hlt2 : j < l.length
        · obtain ⟨g2, cc, hv, hc2, hm2⟩ : ∃ g cap, Value.slice ad2 l.length c2 = .slice (some ⟨g, 0, none⟩) l.length cap ∧ l.length ≤ cap ∧ cap ≤ maxLen := by
            rcases owns_shape hown2 with ⟨_, h0⟩ | h
            · omega
            · exact h
          cases hv
          have hy : ((intl (natI l))[j]?) = some (.int .i64 (l.getD j 0 : Nat)) := by simp [intl, natI, hlt2]
          have cy : wr.cell? ⟨g2, j, none⟩ = _ := (hown2.cellAt j (by omega)).trans hy
          have hst : E ++ (l.take (j + 1)).map (fun y => (k, y)) = (E ++ (l.take j).map (fun y => (k, y))) ++ [(k, l.getD j 0)] := by
            rw [List.take_add_one, List.map_append, List.append_assoc]
            simp [hlt2]
          have HM : Hid ((E ++ (l.take j).map (fun y => (k, y))).length + 1 ≤ maxLen ∧ ((E ++ (l.take j).map (fun y => (k, y))).length + 1) * 16 ≤ 140737488355328) := by
            have h1 := HLn.out
            have h2 := HLl.out
            have h3 : ((l.take j).map (fun y => (k, y))).length ≤ l.length := by simp; omega
            show _ ∧ _
            rw [List.length_append]
            unfold maxLen; omega
          have HS := Lib.hid hst
          have HO := Lib.hid hown
          have HB := Lib.hid hB
          have HO2 := Lib.hid hown2
          have HX := Lib.hid hx
          have hj0 : (0 : Int) ≤ (j : Int) := by omega
          have hj1 : (j : Int) < (l.length : Int) := by omega
          obtain ⟨i0, hie, hz0, hz2, hz3⟩ := info_parts infoEdge
          have hsz := hB.size
          clear hst hown hB hown2 hx hy hc2 hm2
          generalize E ++ (l.take j).map (fun y => (k, y)) = E1 at *
          generalize l.getD j 0 = y at *
          go_wp2_with (first | (at_builtin; go_loud (refine wpList_append_lies _ rfl _ _ 53 rfl w.heap.size 61 i0 (.agg #[.int .i64 0, .int .i64 0]) 2 16 Tryd.underlying53 hie hz0 hz2 hz3 rfl (by decide) u5 E1.length (edgeCells E1) rfl (HO.out.alloc _) ⟨wr.heap.size, 0, none⟩ 1 1 [.int .i64 k, .int .i64 y] rfl rfl (edge_new wr _ _ _) (edge_cell _ _) (by decide) HM.out.1 HM.out.2 (by simp; omega) (wr.heap.size + 1) (by simp) ?_)) | fail)
          intro g c w3 hown3 hgrow hat hg3
          have HO3 := Lib.hid hown3
          have HGr := Lib.hid hgrow
          have HAt := Lib.hid hat
          clear hown3 hgrow hat
          go_wp2_with fail
          go_roundw
          case rel =>
            refine ⟨j + 1, by omega, by go_num, ?_, ?_, ?_, ?_⟩
            · rw [HS.out, List.length_append, edgeCells_append]
              exact HO3.out
            · exact (HB.out.alloc hsz _).grown HGr.out (by simp; omega) (fun q hq => (World.ownsRow.lt HO.out q hq).1)
            · exact owns_of_heap HO2.out fun q hq => by
                have hlt := owns_lt HO2.out q hq
                exact (HGr.out.block q (by simp; omega) (fun e => HX.out q e.symm hq)).trans (heap_alloc_lt hlt)
            · intro q hq h2
              cases hq
              have hlt : g < wr.heap.size := owns_lt HO2.out _ h2
              rcases HAt.out with h | h
              · exact HX.out _ h h2
              · omega
          case measure => simp [intOf]; omega
        · obtain rfl : j = l.length := by omega
          have HO := Lib.hid hown
          have HB := Lib.hid hB
          clear hown hB hown2 hx
          go_wp2_with fail
          go_roundw
          case rel =>
            refine ⟨k + 1, by omega, by go_num, ?_, HB.out⟩
            have h := HO.out
            rw [List.take_length] at h
            rw [HEL.out]
            exact h
          case measure => simp [intOf]; omega
    · have e : k = n := by omega
      subst e
      have HO := Lib.hid hown
      have HB := Lib.hid hB
      clear hown hB
      go_wp2_with fail
      go_ret
      exact ⟨_, rfl, HO.out, HB.out⟩

end Go.Proofs.YtafdijcolponjaaDoor
