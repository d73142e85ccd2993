/- The contract of closure's Thin. Condition: where the table lies. -/
import Derived.Test.YtafdijcolponjaaDoorCloseE
namespace Go.Proofs.YtafdijcolponjaaDoor
open Go.RowKit

theorem delE_nil (g : Nat) (lb : Array Value) (p : Nat → Bool) (eg : Enters g) (w : World) :
    Calls Tryd.prog 98 #[.slice none 0 0, .func (.func g) #[] lb] w fun e w' => e = .returned (.slice none 0 0) ∧ Below w.heap.size w w' := by
  have HI := Lib.hid (indexE_any g lb p eg none 0 0 (fun _ _ => 0) w ⟨by omega, fun h => absurd h (Nat.lt_irrefl 0)⟩ fun W i hi _ => absurd hi (Nat.not_lt_zero i))
  clear eg
  go_enter Tryd.func98, Tryd.ntmps98
  go_wp2_with fail
  go_fit HI.out
  rintro e w1 ⟨hB, (⟨k0, hk0, -, -, -⟩ | ⟨-, rfl⟩)⟩
  · exact absurd hk0 (Nat.not_lt_zero _)
  · have HB := Lib.hid hB
    clear hB
    go_wp2_with fail
    go_ret
    exact ⟨rfl, HB.out⟩
theorem keptL_filter (E : List (Nat × Nat)) (q : Nat × Nat → Bool) : keptL E (fun i => q (E.getD i (0, 0))) E.length = E.filter fun e => !q e := by
  have h : ∀ j, j ≤ E.length → keptL E (fun i => q (E.getD i (0, 0))) j = (E.take j).filter fun e => !q e := by
    intro j
    induction j with
    | zero => intro _; rfl
    | succ j ih =>
      intro hj
      rw [keptL_succ, ih (by omega), List.take_succ_eq_append_getElem (by omega), List.filter_append]
      congr 1
      have e : E.getD j (0, 0) = E[j] := by simp [List.getD, show j < E.length by omega]
      rw [e]
      cases hq : q E[j] <;> simp [hq]
  rw [h _ (Nat.le_refl _), List.take_length]
def ThinRel (w3 : World) (n : Nat) (L : List (Nat × Nat)) (i : Value) (wr : World) : Prop :=
  ∃ k : Nat, k ≤ n ∧ i = .int .i64 k ∧ w3 = wr ∧ ∀ j, j < k → reachB L j j = false

set_option maxRecDepth 20000 in
set_option maxHeartbeats 2000000 in
theorem thin_any (n : Int) (m c : Nat) (ad : Option Addr) (z : Nat → Nat → Int) (w : World) (hE : EdgesIn w ad m z) (hT : TabIs w) :
    Calls Tryd.prog 71 #[.int .i64 n, .slice ad m c] w (EListEnds n z m (thinL n.toNat (ofZ n.toNat z m)) w) := by
  have HO := Lib.hid (gr_of n ad m c z w hE)
  have HT := Lib.hid hT
  clear hE hT
  go_enter Tryd.func71, Tryd.ntmps71
  go_wp2_with fail
  go_fit HO.out
  rintro e wo (⟨hyes, b, F, rfl, hG, hF, hB⟩ | ⟨hno, rfl, hB⟩)
  · obtain ⟨q, rfl, hq5, -⟩ := of_yes hyes
    rw [Int.toNat_natCast] at hG
    have HL := Lib.hid hG.inr
    obtain ⟨L, hLq⟩ : ∃ L, ofZ q z m = L := ⟨_, rfl⟩
    rw [hLq] at HL hG
    have HLq := Lib.hid hLq
    have hB1 : Below w.heap.size w (wo.alloc (.cells #[.pointer (some ⟨b, 0, none⟩)] 50)) := hB.alloc hB.size _
    have HR := Lib.hid (rows_any b q F L _ (hG.alloc (.cells #[.pointer (some ⟨b, 0, none⟩)] 50)) (tab_below HT.out hB1 (Nat.le_refl _)))
    have HB := Lib.hid hB1
    have HY := Lib.hid hyes
    have HG := Lib.hid (hG.alloc (.cells #[.pointer (some ⟨b, 0, none⟩)] 50))
    have hcg : (wo.alloc (.cells #[.pointer (some ⟨b, 0, none⟩)] 50)).cell? ⟨wo.heap.size, 0, none⟩ = some (.pointer (some ⟨b, 0, none⟩)) := cell_at 0 (heap_new _ _) rfl
    have HCg := Lib.hid hcg
    have hzo := hB.size
    clear hyes hG hF hB hLq HO hB1 hcg
    go_wp2_with fail
    go_fit HR.out
    rintro e w1 ⟨g, bs, rfl, hS, hg, hB1⟩
    have hB1' := HB.out.trans (hB1.mono HB.out.size)
    have hcg1 := (hB1.cell (p := ⟨wo.heap.size, 0, none⟩) (by simp)).trans HCg.out
    have hlg : wo.heap.size < w1.heap.size := World.block_lt_of_cell? w1 _ hcg1
    have HG1 := HG.out.below hB1 (Nat.le_refl _)
    have hb2 : Below w1.heap.size w1 (w1.alloc (.cells #[.slice (some ⟨g, 0, none⟩) q q] 75)) := (Below.refl _ _).alloc (Nat.le_refl _) _
    have hTh : ThinAt (w1.alloc (.cells #[.slice (some ⟨g, 0, none⟩) q q] 75)) wo.heap.size w1.heap.size b g q F bs L :=
      ⟨(hb2.cell (p := ⟨wo.heap.size, 0, none⟩) hlg).trans hcg1, cell_at 0 (heap_new _ _) rfl, HG1.below hb2 (Nat.le_refl _), hS.below hb2 (Nat.le_refl _), tab_below HT.out (hB1'.trans (hb2.mono hB1'.size)) (Nat.le_refl _)⟩
    have hB3 := hB1'.trans (hb2.mono hB1'.size)
    have hz1 := hB1'.size
    go_wp2_with fail
    obtain ⟨w3, hw3⟩ : ∃ x, x = w1.alloc (.cells #[.slice (some ⟨g, 0, none⟩) q q] 75) := ⟨_, rfl⟩
    rw [← hw3] at hTh hB3 ⊢
    have cr := hTh.cr
    have cg := hTh.cg
    have HTh := Lib.hid hTh
    have HB3 := Lib.hid hB3
    clear hS hB1 hB1' hcg1 HG1 hb2 hTh hB3 hw3 HR HG HCg HB
    go_wp2_with fail
    go_loopw [24] (fun i wr => ThinRel w3 q L i wr) (fun i _ => q - (intOf i).toNat)
    case atStart => exact ⟨0, Nat.zero_le _, rfl, rfl, fun j hj => absurd hj (Nat.not_lt_zero j)⟩
    case round =>
      obtain ⟨k, hk, rfl, rfl, hall⟩ := hrel
      have HAll := Lib.hid hall
      clear hall
      by_cases hlt : k < q
      · have hk0 : (0 : Int) ≤ (k : Int) := by omega
        have hk1 : (k : Int) < (q : Int) := by omega
        have c0 := HTh.out.st.cell (Nat.le_refl _) hlt
        have hH := has_reach hq5 HTh.out.st hlt hlt
        cases hv : reachB L k k with
        | true =>
          rw [hv] at hH
          have HH := Lib.hid hH
          have hE := gr_edges b q F L w3 HTh.out.gr HTh.out.tb
          have HThin : Hid (thinL q L = edgesR q L q) := by
            show _ = _
            unfold thinL
            rw [if_pos (roundB_iff.2 ⟨k, hlt, reachB_iff.1 hv⟩)]
          have HE := Lib.hid hE
          clear hH hv hE
          go_wp2_with fail
          go_fit HH.out
          rintro e w' ⟨rfl, rfl⟩
          go_wp2_with fail
          go_fit HE.out
          rintro e w4 ⟨v, rfl, hown, hB4⟩
          have HO4 := Lib.hid hown
          have HB4 := Lib.hid (HB3.out.trans (hB4.mono HB3.out.size))
          have hz3 := HB3.out.size
          clear hown hB4
          go_wp2_with fail
          go_ret2
          refine ⟨HB4.out, .inl ⟨HY.out, v, rfl, ?_⟩⟩
          rw [Int.toNat_natCast, HLq.out, HThin.out]
          exact owns_base HO4.out fun x hx => Nat.le_trans hz3 (World.ownsRow.lt HO4.out x hx).1
        | false =>
          rw [hv] at hH
          have HH := Lib.hid hH
          have HV := Lib.hid hv
          clear hH hv
          go_wp2_with fail
          go_fit HH.out
          rintro e w' ⟨rfl, rfl⟩
          go_wp2_with fail
          go_roundw
          case rel =>
            refine ⟨k + 1, hlt, by go_num, rfl, fun j hj => ?_⟩
            by_cases hjk : j < k
            · exact HAll.out j hjk
            · obtain rfl : j = k := by omega
              exact HV.out
          case measure => simp [intOf]; omega
      · obtain rfl : k = q := by omega
        have hrd : roundB k L = false := by
          rw [Bool.eq_false_iff]
          intro ht
          obtain ⟨x, hx, hr⟩ := roundB_iff.1 ht
          have := HAll.out x hx
          rw [reachB_iff.2 hr] at this; cases this
        have HThin : Hid (thinL k L = keptL (edgesR k L k) (fun i => overB L k ((edgesR k L k).getD i (0, 0))) (edgesR k L k).length) := by
          show _ = _
          unfold thinL
          rw [hrd, if_neg (by simp), keptL_filter]
        have HInr : Hid (∀ e ∈ edgesR k L k, e.1 < k ∧ e.2 < k) := fun e he => HL.out e ((mem_edgesR HL.out e).1 he)
        have hE := gr_edges b k F L w3 HTh.out.gr HTh.out.tb
        generalize edgesR k L k = E at *
        have HE := Lib.hid hE
        clear hrd hE
        go_wp2_with fail
        go_fit HE.out
        rintro e w4 ⟨v, rfl, hown, hB4⟩
        have hB4' := HB3.out.trans (hB4.mono HB3.out.size)
        have hz3 := HB3.out.size
        have hTh4 := HTh.out.below hB4
        have hlr : w1.heap.size < w3.heap.size := World.block_lt_of_cell? w3 _ HTh.out.cr
        have hlo : wo.heap.size < w3.heap.size := World.block_lt_of_cell? w3 _ HTh.out.cg
        rcases owns_shape hown with ⟨rfl, h0⟩ | ⟨gg, cc, rfl, -, -⟩
        · have HD := Lib.hid (delE_nil 99 #[.pointer (some ⟨wo.heap.size, 0, none⟩), .pointer (some ⟨w1.heap.size, 0, none⟩)] (fun _ => false) (enters_of Tryd.func99 (by kernel_rfl) rfl) w4)
          have HB4 := Lib.hid hB4'
          have HE0 : Hid (E = []) := List.eq_nil_of_length_eq_zero h0
          clear hown hB4 hB4' hTh4 h0
          go_wp2_with fail
          go_fit HD.out
          rintro e w5 ⟨rfl, hB5⟩
          have HB5 := Lib.hid (HB4.out.trans (hB5.mono HB4.out.size))
          clear hB5
          go_wp2_with fail
          go_ret2
          refine ⟨HB5.out, .inl ⟨HY.out, _, rfl, ?_⟩⟩
          rw [Int.toNat_natCast, HLq.out, HThin.out, HE0.out]
          exact World.ownsRow_nil _ _ _ _
        · have hggl : w3.heap.size ≤ gg := (World.ownsRow.lt hown gg rfl).1
          have hD := delE_any 99 #[.pointer (some ⟨wo.heap.size, 0, none⟩), .pointer (some ⟨w1.heap.size, 0, none⟩)] (fun i => overB L k (E.getD i (0, 0))) (enters_of Tryd.func99 (by kernel_rfl) rfl) _ gg E.length cc E w4 hown
            (fun W i hi hW => by
              have hTW : ThinAt W wo.heap.size w1.heap.size b g k F bs L :=
                ⟨(World.cell?_of_block (hW.block wo.heap.size (by have := hB4.size; omega) (by omega))).trans hTh4.cg, (World.cell?_of_block (hW.block w1.heap.size (by have := hB4.size; omega) (by omega))).trans hTh4.cr,
                  HTh.out.gr.frame fun x hx => by
                    have hx3 := HTh.out.gr.lt x hx
                    exact (hW.block x (by have := hB4.size; omega) (by omega)).trans (hB4.block x hx3),
                  HTh.out.st.frame (by have hx3 := HTh.out.st.glt; exact (hW.block g (by have := hB4.size; omega) (by omega)).trans (hB4.block g hx3)) fun a ha => by
                    have hx3 := HTh.out.st.lt ha
                    exact (hW.block _ (by have := hB4.size; omega) (by omega)).trans (hB4.block _ hx3),
                  tab_below HT.out (hB4'.trans (hW.below (Nat.le_trans hz3 hB4.size) fun x hx e => by omega)) (Nat.le_refl _)⟩
              have hr := HInr.out (E.getD i (0, 0)) (by simp [List.getD, hi])
              exact thinB_any wo.heap.size w1.heap.size b g k (E.getD i (0, 0)).1 (E.getD i (0, 0)).2 F bs L W hr.1 hr.2 hTW)
          generalize hKq : keptL E (fun i => overB L k (E.getD i (0, 0))) E.length = K at *
          have HKq := Lib.hid hKq
          have HD := Lib.hid hD
          have HB4 := Lib.hid hB4'
          clear hown hB4 hB4' hTh4 hD hKq
          go_wp2_with fail
          go_fit HD.out
          rintro e w5 ⟨rfl, hown5, hC5⟩
          have HO5 := Lib.hid hown5
          have HB5 := Lib.hid (HB4.out.trans (hC5.below HB4.out.size fun x hx e => by omega))
          clear hown5 hC5
          go_wp2_with fail
          go_ret2
          refine ⟨HB5.out, .inl ⟨HY.out, _, rfl, ?_⟩⟩
          rw [Int.toNat_natCast, HLq.out, HThin.out]
          exact owns_base HO5.out fun x hx => by cases hx; exact Nat.le_trans hz3 hggl
  · have HB := Lib.hid hB
    have HN := Lib.hid hno
    clear hB hno HO
    go_wp2_with fail
    go_ret2
    exact ⟨HB.out.alloc HB.out.size _, .inr ⟨HN.out, rfl⟩⟩
end Go.Proofs.YtafdijcolponjaaDoor
