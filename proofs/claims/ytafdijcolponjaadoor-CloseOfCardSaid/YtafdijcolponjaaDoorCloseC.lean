/- The contracts of closure's edges, Of and From. Condition: where the table lies. -/
import Derived.Test.YtafdijcolponjaaDoorCloseB
namespace Go.Proofs.YtafdijcolponjaaDoor
open Go.RowKit

theorem fromL_len (n : Nat) (L : List (Nat × Nat)) (a : Nat) : (fromL n L a).length ≤ n := by
  have := List.length_filter_le (reachB L a) (List.range n)
  simpa [fromL] using this
theorem closeL_len (n : Nat) (L : List (Nat × Nat)) : ∀ k, (closeL n L k).length ≤ k * n
  | 0 => by simp [closeL]
  | k + 1 => by
    rw [closeL_succ, List.length_append, List.length_map, Nat.succ_mul]
    have := closeL_len n L k
    have := fromL_len n L k
    omega
theorem preL_from {n : Nat} {L : List (Nat × Nat)} (hn : n ≤ 500) (hL : ∀ e ∈ L, e.1 < n ∧ e.2 < n) {a : Nat} {ws : List Nat} (h : ∀ i, i < 512 → mem ws i = reachB L a i) : preL ws 8 = fromL n L a :=
  preL_of hn h fun i hi => by
    rw [Bool.eq_false_iff]
    intro ht
    have := ((reachB_iff.1 ht).lt hL).2
    omega
def CEdgeOut (w : World) (g n : Nat) (bs : Nat → Nat) (L : List (Nat × Nat)) (v i : Value) (wr : World) : Prop :=
  ∃ k : Nat, k ≤ n ∧ i = .int .i64 k ∧ wr.ownsRow w.heap.size 61 2 v (closeL n L k).length (edgeCells (closeL n L k)) ∧ Below w.heap.size w wr

set_option maxRecDepth 20000 in
set_option maxHeartbeats 1000000 in
theorem edges_close (g n : Nat) (bs : Nat → Nat) (L : List (Nat × Nat)) (w : World) (hn : n ≤ 500) (hL : ∀ e ∈ L, e.1 < n ∧ e.2 < n) (h : SetsAt w g n n bs (reachB L)) (hT : TabIs w) :
    Calls Tryd.prog 102 #[.slice (some ⟨g, 0, none⟩) n n] w (EdgeEnds (closeL n L n) w) := by
  have HR := Lib.hid h
  have HT := Lib.hid hT
  have HLr := Lib.hid hL
  have hown := World.ownsRow_nil w w.heap.size 61 2
  have HO := Lib.hid hown
  clear hown h hT hL
  go_enter Tryd.func102, Tryd.ntmps102
  go_wp2_with fail
  go_loopw [3, 10] (fun v i wr => CEdgeOut w g n bs L v i wr) (fun _ i _ => n - (intOf i).toNat)
  case atStart => exact ⟨0, by omega, rfl, HO.out, Below.refl _ _⟩
  case round =>
    clear HO
    obtain ⟨k, hk, rfl, hown, hB⟩ := hrel
    obtain ⟨wA, rfl⟩ : ∃ x, x = wr := ⟨_, rfl⟩
    obtain ⟨vA, rfl⟩ : ∃ x, x = u3 := ⟨_, rfl⟩
    have hR2 := HR.out.below hB (Nat.le_refl _)
    by_cases hlt : k < n
    · have c0 := hR2.cell (Nat.le_refl _) hlt
      obtain ⟨ws, hs1, hs2⟩ := hR2.sat k hlt
      have hA := all_any (bs k) ws wA hs1 (tab_below HT.out hB (Nat.le_refl _))
      unfold AllEnds at hA
      rw [preL_from hn HLr.out hs2] at hA
      have HA := Lib.hid hA
      have HEL := Lib.hid (closeL_succ n L k)
      have HLn := Lib.hid (closeL_len n L k)
      have HO := Lib.hid hown
      have HB := Lib.hid hB
      have hll := fromL_len n L k
      have hkn : k * n ≤ 250000 := by
        have := Nat.mul_le_mul (show k ≤ 500 by omega) hn
        omega
      generalize fromL n L k = l at *
      have HLl := Lib.hid hll
      generalize closeL n L k = E at *
      have hk0 : (0 : Int) ≤ (k : Int) := by omega
      have hk1 : (k : Int) < (n : Int) := by omega
      clear hown hB hA hll hR2 hs1 hs2
      go_wp2_with fail
      go_fit HA.out
      rintro e w1 ⟨v2, rfl, hown2, hB2⟩
      obtain ⟨ad2, c2, rfl⟩ := owns_slice hown2
      have hsz := HB.out.size
      have hs2 := hB2.size
      have HB2 := Lib.hid (HB.out.trans (hB2.mono hsz))
      have HO2 := Lib.hid hown2
      have hx : ∀ q, vA.ownBlock = some q → (Value.slice ad2 l.length c2).ownBlock ≠ some q := fun q hq h2 => by
        have a1 := owns_lt HO.out q hq
        have a2 := (World.ownsRow.lt hown2 q h2).1
        omega
      have HX := Lib.hid hx
      have HO1 := Lib.hid (owns_of_heap HO.out fun q hq => hB2.block q (owns_lt HO.out q hq))
      clear hown2 hB2 hx
      have hl63 : (l.length : Int) ≤ 9223372036854775807 := by have := HLl.out; omega
      go_wp2_with fail
      go_loopw [3, 18] (fun v i wr2 => EdgeIn w E k l wA.heap.size (.slice ad2 l.length c2) v i wr2) (fun _ i _ => l.length - (intOf i).toNat)
      case atStart =>
        exact ⟨0, by omega, rfl, by simpa using HO1.out, HB2.out, HO2.out, HX.out⟩
      case round =>
        clear HO HO1 HX HB HB2 HO2 c0
        obtain ⟨j, hj, rfl, hown, hB, hown2, hx⟩ := hrel
        by_cases hlt2 : j < l.length
        · obtain ⟨g2, cc, hv, hc2, hm2⟩ : ∃ g cap, Value.slice ad2 l.length c2 = .slice (some ⟨g, 0, none⟩) l.length cap ∧ l.length ≤ cap ∧ cap ≤ maxLen := by
            rcases owns_shape hown2 with ⟨_, h0⟩ | h
            · omega
            · exact h
          cases hv
          have hy : ((intl (natI l))[j]?) = some (.int .i64 (l.getD j 0 : Nat)) := by simp [intl, natI, hlt2]
          have cy : wr.cell? ⟨g2, j, none⟩ = _ := (hown2.cellAt j (by omega)).trans hy
          have hst : E ++ (l.take (j + 1)).map (fun y => (k, y)) = (E ++ (l.take j).map (fun y => (k, y))) ++ [(k, l.getD j 0)] := by
            rw [List.take_add_one, List.map_append, List.append_assoc]
            simp [hlt2]
          have HM : Hid ((E ++ (l.take j).map (fun y => (k, y))).length + 1 ≤ maxLen ∧ ((E ++ (l.take j).map (fun y => (k, y))).length + 1) * 16 ≤ 140737488355328) := by
            have h1 := HLn.out
            have h2 := HLl.out
            have h3 : ((l.take j).map (fun y => (k, y))).length ≤ l.length := by simp; omega
            show _ ∧ _
            rw [List.length_append]
            unfold maxLen; omega
          have HS := Lib.hid hst
          have HO := Lib.hid hown
          have HB := Lib.hid hB
          have HO2 := Lib.hid hown2
          have HX := Lib.hid hx
          have hj0 : (0 : Int) ≤ (j : Int) := by omega
          have hj1 : (j : Int) < (l.length : Int) := by omega
          obtain ⟨i0, hie, hz0, hz2, hz3⟩ := info_parts infoEdge
          have hsz := hB.size
          clear hst hown hB hown2 hx hy hc2 hm2
          generalize E ++ (l.take j).map (fun y => (k, y)) = E1 at *
          generalize l.getD j 0 = y at *
          go_wp2_with (first | (at_builtin; go_loud (refine wpList_append_lies _ rfl _ _ 53 rfl w.heap.size 61 i0 (.agg #[.int .i64 0, .int .i64 0]) 2 16 Tryd.underlying53 hie hz0 hz2 hz3 rfl (by decide) u3 E1.length (edgeCells E1) rfl (HO.out.alloc _) ⟨wr.heap.size, 0, none⟩ 1 1 [.int .i64 k, .int .i64 y] rfl rfl (edge_new wr _ _ _) (edge_cell _ _) (by decide) HM.out.1 HM.out.2 (by simp; omega) (wr.heap.size + 1) (by simp) ?_)) | fail)
          intro g c w3 hown3 hgrow hat hg3
          have HO3 := Lib.hid hown3
          have HGr := Lib.hid hgrow
          have HAt := Lib.hid hat
          clear hown3 hgrow hat
          go_wp2_with fail
          go_roundw
          case rel =>
            refine ⟨j + 1, by omega, by go_num, ?_, ?_, ?_, ?_⟩
            · rw [HS.out, List.length_append, edgeCells_append]
              exact HO3.out
            · exact (HB.out.alloc hsz _).grown HGr.out (by simp; omega) (fun q hq => (World.ownsRow.lt HO.out q hq).1)
            · exact owns_of_heap HO2.out fun q hq => by
                have hlt := owns_lt HO2.out q hq
                exact (HGr.out.block q (by simp; omega) (fun e => HX.out q e.symm hq)).trans (heap_alloc_lt hlt)
            · intro q hq h2
              cases hq
              have hlt : g < wr.heap.size := owns_lt HO2.out _ h2
              rcases HAt.out with h | h
              · exact HX.out _ h h2
              · omega
          case measure => simp [intOf]; omega
        · obtain rfl : j = l.length := by omega
          have HO := Lib.hid hown
          have HB := Lib.hid hB
          clear hown hB hown2 hx
          go_wp2_with fail
          go_roundw
          case rel =>
            refine ⟨k + 1, by omega, by go_num, ?_, HB.out⟩
            have h := HO.out
            rw [List.take_length] at h
            rw [HEL.out]
            exact h
          case measure => simp [intOf]; omega
    · have e : k = n := by omega
      subst e
      have HO := Lib.hid hown
      have HB := Lib.hid hB
      clear hown hB hR2
      go_wp2_with fail
      go_ret
      exact ⟨_, rfl, HO.out, HB.out⟩

/-- A list of edges, or a refusal. -/
def EListEnds (n : Int) (z : Nat → Nat → Int) (m : Nat) (K : List (Nat × Nat)) (w : World) (e : Ending) (w' : World) : Prop :=
  Below w.heap.size w w' ∧ ((ofB n z m = true ∧ ∃ v, e = .returned (.tuple #[v, .int .i64 0]) ∧ w'.ownsRow w.heap.size 61 2 v K.length (edgeCells K)) ∨ (ofB n z m = false ∧ e = .returned (.tuple #[.slice none 0 0, .int .i64 2])))
theorem cof_any (n : Int) (m c : Nat) (ad : Option Addr) (z : Nat → Nat → Int) (w : World) (hE : EdgesIn w ad m z) (hT : TabIs w) :
    Calls Tryd.prog 75 #[.int .i64 n, .slice ad m c] w (EListEnds n z m (closeL n.toNat (ofZ n.toNat z m) n.toNat) w) := by
  have HO := Lib.hid (gr_of n ad m c z w hE)
  have HT := Lib.hid hT
  clear hE hT
  go_enter Tryd.func75, Tryd.ntmps75
  go_wp2_with fail
  go_fit HO.out
  rintro e wo (⟨hyes, b, F, rfl, hG, hF, hB⟩ | ⟨hno, rfl, hB⟩)
  · have hn0 : n = (n.toNat : Nat) := by
      unfold ofB at hyes
      rw [Bool.and_eq_true] at hyes
      have := of_decide_eq_true hyes.1
      omega
    have hn5 := hG.n500
    have HL := Lib.hid hG.inr
    have HR := Lib.hid (rows_any b n.toNat F (ofZ n.toNat z m) wo hG (tab_below HT.out hB (Nat.le_refl _)))
    have HB := Lib.hid hB
    have HY := Lib.hid hyes
    obtain ⟨q, hq⟩ : ∃ q : Nat, n = (q : Int) := ⟨_, hn0⟩
    subst hq
    rw [Int.toNat_natCast] at *
    obtain ⟨L, hLq⟩ : ∃ L, ofZ q z m = L := ⟨_, rfl⟩
    rw [hLq] at HR HL
    have HLq := Lib.hid hLq
    clear hyes hG hF hB hn0 hLq
    go_wp2_with fail
    go_fit HR.out
    rintro e w1 ⟨g, bs, rfl, hS, hg, hB1⟩
    have hB1' := HB.out.trans (hB1.mono HB.out.size)
    have hEd := edges_close g q bs L w1 hn5 HL.out hS (tab_below HT.out hB1' (Nat.le_refl _))
    generalize hcl : closeL q L q = E at hEd
    have HCl := Lib.hid hcl
    have HEd := Lib.hid hEd
    have HB1 := Lib.hid hB1'
    clear hS hB1 hB1' hEd hcl
    go_wp2_with fail
    go_fit HEd.out
    rintro e w2 ⟨v, rfl, hown, hB2⟩
    have HO2 := Lib.hid hown
    have HB2 := Lib.hid (HB1.out.trans (hB2.mono HB1.out.size))
    have hz1 := HB1.out.size
    clear hown hB2
    go_wp2_with fail
    go_ret2
    refine ⟨HB2.out, .inl ⟨HY.out, v, rfl, ?_⟩⟩
    rw [HLq.out, HCl.out]
    exact owns_base HO2.out fun x hx => Nat.le_trans hz1 (World.ownsRow.lt HO2.out x hx).1
  · have HB := Lib.hid hB
    have HN := Lib.hid hno
    clear hB hno HO
    go_wp2_with fail
    go_ret2
    exact ⟨HB.out, .inr ⟨HN.out, rfl⟩⟩
def CFromEnds (n a : Int) (z : Nat → Nat → Int) (m : Nat) (w : World) (e : Ending) (w' : World) : Prop :=
  Below w.heap.size w w' ∧ ((ofB n z m = true ∧ 0 ≤ a ∧ a < n ∧ ∃ v, e = .returned (.tuple #[v, .int .i64 0]) ∧ w'.ownsRow w.heap.size 3 1 v (fromL n.toNat (ofZ n.toNat z m) a.toNat).length (intl (natI (fromL n.toNat (ofZ n.toNat z m) a.toNat)))) ∨
    (ofB n z m = true ∧ ¬ (0 ≤ a ∧ a < n) ∧ e = .returned (.tuple #[.slice none 0 0, .int .i64 2])) ∨ (ofB n z m = false ∧ e = .returned (.tuple #[.slice none 0 0, .int .i64 2])))
theorem cfrom_any (n a : Int) (m c : Nat) (ad : Option Addr) (z : Nat → Nat → Int) (w : World) (hE : EdgesIn w ad m z) (hT : TabIs w) :
    Calls Tryd.prog 76 #[.int .i64 n, .int .i64 a, .slice ad m c] w (CFromEnds n a z m w) := by
  have HO := Lib.hid (gr_of n ad m c z w hE)
  have HT := Lib.hid hT
  clear hE hT
  go_enter Tryd.func76, Tryd.ntmps76
  go_wp2_with fail
  go_fit HO.out
  rintro e wo (⟨hyes, b, F, rfl, hG, hF, hB⟩ | ⟨hno, rfl, hB⟩)
  · obtain ⟨q, rfl, hq5, -⟩ := of_yes hyes
    rw [Int.toNat_natCast] at hG
    have HL := Lib.hid hG.inr
    obtain ⟨L, hLq⟩ : ∃ L, ofZ q z m = L := ⟨_, rfl⟩
    rw [hLq] at HL hG
    have HLq := Lib.hid hLq
    have HR := Lib.hid (rows_any b q F L wo hG (tab_below HT.out hB (Nat.le_refl _)))
    have HB := Lib.hid hB
    have HY := Lib.hid hyes
    clear hyes hG hF hB hLq HO
    by_cases h0 : 0 ≤ a
    · by_cases h1 : a < (q : Int)
      · obtain ⟨x, rfl⟩ := Int.eq_ofNat_of_zero_le h0
        have hxq : x < q := by omega
        go_wp2_with fail
        go_fit HR.out
        rintro e w1 ⟨g, bs, rfl, hS, hg, hB1⟩
        have hB1' := HB.out.trans (hB1.mono HB.out.size)
        have c0 := hS.cell (Nat.le_refl _) hxq
        obtain ⟨ws, hs1, hs2⟩ := hS.sat x hxq
        have hA := all_any (bs x) ws w1 hs1 (tab_below HT.out hB1' (Nat.le_refl _))
        unfold AllEnds at hA
        rw [preL_from hq5 HL.out hs2] at hA
        generalize hfl : fromL q L x = l at *
        have HFl := Lib.hid hfl
        have HA := Lib.hid hA
        have HB1 := Lib.hid hB1'
        clear hS hB1 hB1' hs1 hs2 hA hfl
        go_wp2_with fail
        go_fit HA.out
        rintro e w2 ⟨v, rfl, hown, hB2⟩
        have HO2 := Lib.hid hown
        have HB2 := Lib.hid (HB1.out.trans (hB2.mono HB1.out.size))
        have hz1 := HB1.out.size
        clear hown hB2
        go_wp2_with fail
        go_ret2
        refine ⟨HB2.out, .inl ⟨HY.out, h0, h1, v, rfl, ?_⟩⟩
        rw [Int.toNat_natCast, Int.toNat_natCast, HLq.out, HFl.out]
        exact owns_base HO2.out fun y hy => Nat.le_trans hz1 (World.ownsRow.lt HO2.out y hy).1
      · go_wp2_with fail
        go_ret2
        exact ⟨HB.out, .inr (.inl ⟨HY.out, fun h => (by omega), rfl⟩)⟩
    · go_wp2_with fail
      go_ret2
      exact ⟨HB.out, .inr (.inl ⟨HY.out, fun h => (by omega), rfl⟩)⟩
  · have HB := Lib.hid hB
    have HN := Lib.hid hno
    clear hB hno HO
    go_wp2_with fail
    go_ret2
    exact ⟨HB.out, .inr (.inr ⟨HN.out, rfl⟩)⟩
end Go.Proofs.YtafdijcolponjaaDoor
