/- The contracts of the document's Edges, Of, May. No condition but those in each statement. -/
import Derived.Test.YtafdijcolponjaaDoorGraphV
import Derived.Test.YtafdijcolponjaaDoorGraphO
namespace Go.Proofs.YtafdijcolponjaaDoor
open Go.RowKit

def REdgeOut (w : World) (n : Nat) (L : List (Nat × Nat)) (v i : Value) (wr : World) : Prop :=
  ∃ k : Nat, k ≤ n ∧ i = .int .i64 k ∧ wr.ownsRow w.heap.size 61 2 v (edgesR n L k).length (edgeCells (edgesR n L k)) ∧ Below w.heap.size w wr

set_option maxRecDepth 20000 in
theorem rg_edges (r n : Nat) (F : List Nat) (L : List (Nat × Nat)) (w : World) (h : RefG w r F n L) (hn : n ≤ 500) :
    Calls Tryd.prog 61 #[.pointer (some ⟨r, 0, none⟩)] w (EdgeEnds (edgesR n L n) w) := by
  have HR := Lib.hid h
  clear h
  have hown := World.ownsRow_made (base := w.heap.size) (e := 61) (size := 2) w #[] 0 (Nat.le_refl _) (by decide) rfl
  have HO := Lib.hid hown
  clear hown
  go_enter Tryd.func61, Tryd.ntmps61
  go_wp2_with fail
  go_loopw [3, 4] (fun v i wr => REdgeOut w n L v i wr) (fun _ i _ => n - (intOf i).toNat)
  case atStart => exact ⟨0, by omega, rfl, HO.out, (Below.refl _ _).alloc (Nat.le_refl _) _⟩
  case round =>
    clear HO
    obtain ⟨k, hk, rfl, hown, hB⟩ := hrel
    obtain ⟨wA, rfl⟩ : ∃ x, x = wr := ⟨_, rfl⟩
    obtain ⟨vA, rfl⟩ : ∃ x, x = u3 := ⟨_, rfl⟩
    have hR2 := HR.out.frame (w' := wA) fun q hq => hB.block q (HR.out.lt q hq)
    have hA := rg_next r n F L k wA hR2 hn
    obtain ⟨v, h1, -⟩ := hR2
    have c0 : wA.cell? ⟨r, 0, none⟩ = some (.int .i64 n) := cell_at 0 h1 rfl
    clear h1
    by_cases hlt : k < n
    · unfold ListEnds at hA
      have HA := Lib.hid hA
      have HEL := Lib.hid (edgesR_succ n L k)
      have HLn := Lib.hid (edgesR_len n L k)
      have HO := Lib.hid hown
      have HB := Lib.hid hB
      have hll := nextR_len n L k
      have hkn : k * n ≤ 250000 := by
        have := Nat.mul_le_mul (show k ≤ 500 by omega) hn
        omega
      generalize nextR n L k = l at *
      have HLl := Lib.hid hll
      generalize edgesR n L k = E at *
      have hk0 : (0 : Int) ≤ (k : Int) := by omega
      have hk1 : (k : Int) < (n : Int) := by omega
      clear hown hB hA hll
      go_wp2_with fail
      go_fit HA.out
      rintro e w1 ⟨v2, rfl, hown2, hB2⟩
      obtain ⟨ad2, c2, rfl⟩ := owns_slice hown2
      have hsz := HB.out.size
      have hs2 := hB2.size
      have HB2 := Lib.hid (HB.out.trans (hB2.mono hsz))
      have HO2 := Lib.hid hown2
      have hx : ∀ q, vA.ownBlock = some q → (Value.slice ad2 l.length c2).ownBlock ≠ some q := fun q hq h2 => by
        have a1 := owns_lt HO.out q hq
        have a2 := (World.ownsRow.lt hown2 q h2).1
        omega
      have HX := Lib.hid hx
      have HO1 := Lib.hid (owns_of_heap HO.out fun q hq => hB2.block q (owns_lt HO.out q hq))
      clear hown2 hB2 hx
      have hl63 : (l.length : Int) ≤ 9223372036854775807 := by have := HLl.out; omega
      go_wp2_with fail
      go_loopw [3, 6] (fun v i wr2 => EdgeIn w E k l wA.heap.size (.slice ad2 l.length c2) v i wr2) (fun _ i _ => l.length - (intOf i).toNat)
      case atStart =>
        exact ⟨0, by omega, rfl, by simpa using HO1.out, HB2.out, HO2.out, HX.out⟩
      case round =>
        clear HO HO1 HX HB HB2 HO2 c0
        obtain ⟨j, hj, rfl, hown, hB, hown2, hx⟩ := hrel
        by_cases hlt2 : j < l.length
        · obtain ⟨g2, cc, hv, hc2, hm2⟩ : ∃ g cap, Value.slice ad2 l.length c2 = .slice (some ⟨g, 0, none⟩) l.length cap ∧ l.length ≤ cap ∧ cap ≤ maxLen := by
            rcases owns_shape hown2 with ⟨_, h0⟩ | h
            · omega
            · exact h
          cases hv
          have hy : ((intl (natI l))[j]?) = some (.int .i64 (l.getD j 0 : Nat)) := by simp [intl, natI, hlt2]
          have cy : wr.cell? ⟨g2, j, none⟩ = _ := (hown2.cellAt j (by omega)).trans hy
          have hst : E ++ (l.take (j + 1)).map (fun y => (k, y)) = (E ++ (l.take j).map (fun y => (k, y))) ++ [(k, l.getD j 0)] := by
            rw [List.take_add_one, List.map_append, List.append_assoc]
            simp [hlt2]
          have HM : Hid ((E ++ (l.take j).map (fun y => (k, y))).length + 1 ≤ maxLen ∧ ((E ++ (l.take j).map (fun y => (k, y))).length + 1) * 16 ≤ 140737488355328) := by
            have h1 := HLn.out
            have h2 := HLl.out
            have h3 : ((l.take j).map (fun y => (k, y))).length ≤ l.length := by simp; omega
            show _ ∧ _
            rw [List.length_append]
            unfold maxLen; omega
          have HS := Lib.hid hst
          have HO := Lib.hid hown
          have HB := Lib.hid hB
          have HO2 := Lib.hid hown2
          have HX := Lib.hid hx
          have hj0 : (0 : Int) ≤ (j : Int) := by omega
          have hj1 : (j : Int) < (l.length : Int) := by omega
          obtain ⟨i0, hie, hz0, hz2, hz3⟩ := info_parts infoEdge
          have hsz := hB.size
          clear hst hown hB hown2 hx hy hc2 hm2
          generalize E ++ (l.take j).map (fun y => (k, y)) = E1 at *
          generalize l.getD j 0 = y at *
          go_wp2_with (first | (at_builtin; go_loud (refine wpList_append_lies _ rfl _ _ 53 rfl w.heap.size 61 i0 (.agg #[.int .i64 0, .int .i64 0]) 2 16 Tryd.underlying53 hie hz0 hz2 hz3 rfl (by decide) u3 E1.length (edgeCells E1) rfl (HO.out.alloc _) ⟨wr.heap.size, 0, none⟩ 1 1 [.int .i64 k, .int .i64 y] rfl rfl (edge_new wr _ _ _) (edge_cell _ _) (by decide) HM.out.1 HM.out.2 (by simp; omega) (wr.heap.size + 1) (by simp) ?_)) | fail)
          intro g c w3 hown3 hgrow hat hg3
          have HO3 := Lib.hid hown3
          have HGr := Lib.hid hgrow
          have HAt := Lib.hid hat
          clear hown3 hgrow hat
          go_wp2_with fail
          go_roundw
          case rel =>
            refine ⟨j + 1, by omega, by go_num, ?_, ?_, ?_, ?_⟩
            · rw [HS.out, List.length_append, edgeCells_append]
              exact HO3.out
            · exact (HB.out.alloc hsz _).grown HGr.out (by simp; omega) (fun q hq => (World.ownsRow.lt HO.out q hq).1)
            · exact owns_of_heap HO2.out fun q hq => by
                have hlt := owns_lt HO2.out q hq
                exact (HGr.out.block q (by simp; omega) (fun e => HX.out q e.symm hq)).trans (heap_alloc_lt hlt)
            · intro q hq h2
              cases hq
              have hlt : g < wr.heap.size := owns_lt HO2.out _ h2
              rcases HAt.out with h | h
              · exact HX.out _ h h2
              · omega
          case measure => simp [intOf]; omega
        · obtain rfl : j = l.length := by omega
          have HO := Lib.hid hown
          have HB := Lib.hid hB
          clear hown hB hown2 hx
          go_wp2_with fail
          go_roundw
          case rel =>
            refine ⟨k + 1, by omega, by go_num, ?_, HB.out⟩
            have h := HO.out
            rw [List.take_length] at h
            rw [HEL.out]
            exact h
          case measure => simp [intOf]; omega
    · have e : k = n := by omega
      subst e
      have HO := Lib.hid hown
      have HB := Lib.hid hB
      clear hown hB hA
      go_wp2_with fail
      go_ret
      exact ⟨_, rfl, HO.out, HB.out⟩

/-- A graph of the document that is new, wholly. -/
def RGNew (n : Nat) (L : List (Nat × Nat)) (w : World) (e : Ending) (w' : World) : Prop :=
  ∃ r F, e = .returned (.pointer (some ⟨r, 0, none⟩)) ∧ RefG w' r F n L ∧ (∀ k ∈ F, w.heap.size ≤ k) ∧ Below w.heap.size w w'
def ROfRel (w : World) (r n : Nat) (z : Nat → Nat → Int) (m : Nat) (i : Value) (wr : World) : Prop :=
  ∃ (k : Nat) (F : List Nat), k ≤ m ∧ i = .int .i64 k ∧ RefG wr r F n (ofZ n z k) ∧ (∀ q ∈ F, w.heap.size ≤ q) ∧ Below w.heap.size w wr

set_option maxRecDepth 20000 in
theorem rg_of (n : Nat) (ad : Option Addr) (m c : Nat) (z : Nat → Nat → Int) (w : World) (h : EdgesIn w ad m z) (hm : m ≤ 1000000) :
    Calls Tryd.prog 52 #[.int .i64 n, .slice ad m c] w (RGNew n (ofZ n z m) w) := by
  have HE := Lib.hid h
  clear h
  go_enter Tryd.func52, Tryd.ntmps52
  go_wp2_with fail
  obtain ⟨r, hr⟩ : ∃ r, r = w.heap.size := ⟨_, rfl⟩
  have hG : RefG (w.alloc (.cells #[.int .i64 n, .slice none 0 0] 71)) r [r] n [] := by
    rw [hr]; exact ⟨_, heap_new _ _, .inl ⟨rfl, .inl ⟨rfl, rfl⟩⟩, rfl, by simp⟩
  have HG := Lib.hid hG
  have HRr := Lib.hid hr
  clear hG
  rw [← hr]
  clear hr
  go_loopw [6] (fun i wr => ROfRel w r n z m i wr) (fun i _ => m - (intOf i).toNat)
  case atStart => exact ⟨0, [r], Nat.zero_le _, rfl, HG.out, by have := HRr.out; simp; omega, (Below.refl _ _).alloc (Nat.le_refl _) _⟩
  case round =>
    clear HG
    obtain ⟨k, F, hk, rfl, hG, hF, hB⟩ := hrel
    have HG := Lib.hid hG
    have HF := Lib.hid hF
    have HB := Lib.hid hB
    by_cases hlt : k < m
    · obtain ⟨g, rfl, hg, hc⟩ := (HE.out.below hB (Nat.le_refl _)).2 (by omega)
      obtain ⟨c1, c2⟩ := hc k hlt
      have HZ : Hid (ofZ n z (k + 1) = putL n (ofZ n z k) (z k 0) (z k 1)) := by show _ = _; rfl
      have hlen := ofZ_len n z k
      generalize z k 0 = x at *
      generalize z k 1 = y at *
      generalize ofZ n z k = L at *
      have HC1 := Lib.hid c1
      have HC2 := Lib.hid c2
      have hk0 : (0 : Int) ≤ (k : Int) := by omega
      have hk1 : (k : Int) < (m : Int) := by omega
      clear hG hF hB hc hg c1 c2
      go_wp2_with fail
      refine region_tail 11 (by kernel_rfl) (by kernel_rfl) fun w3 hS => ?_
      have d1 := hS.cell HC1.out
      have d2 := hS.cell HC2.out
      have hP := rg_put r n F L x y w3 (HG.out.frame fun j _ => hS.at j) (by omega)
      have HP := Lib.hid hP
      have HS := Lib.hid hS
      generalize putV n L x y = pv at *
      unfold RGEnds two at HP
      clear hP hS
      simp only [List.take_succ_cons, List.take_zero, List.drop_succ_cons, List.drop_zero]
      repeat still_step
      refine wpStill_nil ?_
      go_wp2_with fail
      go_fit HP.out
      rintro e w4 ⟨rfl, F4, hG4, hF4, hC4⟩
      have hz := HB.out.size
      have hz3 : w3.heap.size = wr.heap.size := by rw [HS.out.heap]
      have hB4 := HB.out.trans (HS.out.below.trans (hC4.below (by omega) fun j hj hjF => by have := HF.out j hjF; omega))
      have hF4' : ∀ j ∈ F4, w.heap.size ≤ j := fun j hj => by
        rcases hF4 j hj with h | h
        · exact HF.out j h
        · omega
      have HG5 := Lib.hid hG4
      have HF5 := Lib.hid hF4'
      have HB5 := Lib.hid hB4
      clear hG4 hF4 hC4 hB4 hF4' hz hz3 d1 d2
      go_wp2_with fail
      go_roundw
      case rel => exact ⟨k + 1, F4, by omega, by go_num, by rw [HZ.out]; exact HG5.out, HF5.out, HB5.out⟩
      case measure => simp [intOf]; omega
    · have e : k = m := by omega
      subst e
      clear hG hF hB
      go_wp2_with fail
      go_ret
      exact ⟨r, F, rfl, HG.out, HF.out, HB.out⟩

def MayRel (w : World) (n : Nat) (z : Nat → Nat → Int) (m : Nat) (i : Value) (wr : World) : Prop :=
  ∃ k : Nat, k ≤ m ∧ i = .int .i64 k ∧ mayE n z k = true ∧ w = wr

theorem rg_may (n : Int) (ad : Option Addr) (m c : Nat) (z : Nat → Nat → Int) (w : World) (h : EdgesIn w ad m z) :
    Calls Tryd.prog 51 #[.int .i64 n, .slice ad m c] w fun e w' => e = .returned (.bool (ofB n z m)) ∧ w = w' := by
  have hm0 := h.1
  unfold ofB
  by_cases hn : 0 ≤ n ∧ n ≤ 500
  · rw [decide_eq_true hn, Bool.true_and]
    obtain ⟨q, rfl⟩ := Int.eq_ofNat_of_zero_le hn.1
    rw [Int.toNat_natCast]
    have HE := Lib.hid h
    have n1 : ¬ ((q : Int) < 0) := by omega
    have n2 : ¬ (500 < (q : Int)) := by omega
    clear h hn
    go_enter Tryd.func51, Tryd.ntmps51
    go_wp2_with fail
    go_loopw [5] (fun i wr => MayRel w q z m i wr) (fun i _ => m - (intOf i).toNat)
    case atStart => exact ⟨0, Nat.zero_le _, rfl, rfl, rfl⟩
    case round =>
      obtain ⟨k, hk, rfl, hmay, rfl⟩ := hrel
      by_cases hlt : k < m
      · obtain ⟨g, rfl, hg, hc⟩ := HE.out.2 (by omega)
        obtain ⟨c1, c2⟩ := hc k hlt
        have HM := Lib.hid (mayE_succ q z k)
        have HNo := Lib.hid (fun h => mayE_no (n := q) (z := z) (i := k) h hlt)
        have HMay := Lib.hid hmay
        generalize z k 0 = x at *
        generalize z k 1 = y at *
        have hk0 : (0 : Int) ≤ (k : Int) := by omega
        have hk1 : (k : Int) < (m : Int) := by omega
        clear hc hg hmay
        by_cases hx : (0 ≤ x ∧ x < (q : Int)) ∧ (0 ≤ y ∧ y < (q : Int))
        · have HIn : Hid ((inG q x && inG q y) = true) := by show _ = _; unfold inG; rw [decide_eq_true hx.1, decide_eq_true hx.2]; rfl
          have q1 : ¬ (x < 0) := by omega
          have q2 : ¬ (y < 0) := by omega
          have q3 : ¬ ((q : Int) ≤ x) := by omega
          have q4 : ¬ ((q : Int) ≤ y) := by omega
          clear hx
          go_wp2_with fail
          go_roundw
          case rel => exact ⟨k + 1, by omega, by go_num, by rw [HM.out, HMay.out, HIn.out]; rfl, rfl⟩
          case measure => simp [intOf]; omega
        · have HIn : Hid ((inG q x && inG q y) = false) := by
            show _ = _
            rw [Bool.and_eq_false_iff]
            unfold inG
            by_cases h1 : 0 ≤ x ∧ x < (q : Int)
            · right; exact decide_eq_false (fun h2 => hx ⟨h1, h2⟩)
            · left; exact decide_eq_false h1
          have HD : Hid (mayE q z m = false) := HNo.out HIn.out
          by_cases q1 : x < 0
          · clear hx
            go_wp2_with fail
            go_ret
            exact ⟨ret_bool HD.out.symm, rfl⟩
          · by_cases q2 : y < 0
            · clear hx
              go_wp2_with fail
              go_ret
              exact ⟨ret_bool HD.out.symm, rfl⟩
            · by_cases q3 : (q : Int) ≤ x
              · clear hx
                go_wp2_with fail
                go_ret
                exact ⟨ret_bool HD.out.symm, rfl⟩
              · have q4 : (q : Int) ≤ y := by omega
                clear hx
                go_wp2_with fail
                go_ret
                exact ⟨ret_bool HD.out.symm, rfl⟩
      · have e : k = m := by omega
        subst e
        have HMay := Lib.hid hmay
        clear hmay
        go_wp2_with fail
        go_ret
        exact ⟨ret_bool HMay.out.symm, rfl⟩
  · rw [decide_eq_false hn, Bool.false_and]
    by_cases n1 : n < 0
    · clear hn h
      go_enter Tryd.func51, Tryd.ntmps51
      go_wp2_with fail
      go_ret
      exact ⟨rfl, rfl⟩
    · have n2 : 500 < n := by omega
      clear hn h
      go_enter Tryd.func51, Tryd.ntmps51
      go_wp2_with fail
      go_ret
      exact ⟨rfl, rfl⟩
end Go.Proofs.YtafdijcolponjaaDoor
