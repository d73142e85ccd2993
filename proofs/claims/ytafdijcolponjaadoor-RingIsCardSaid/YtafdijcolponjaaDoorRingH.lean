/- The contract of a ring's Least. Condition: where the table lies. -/
import Derived.Test.YtafdijcolponjaaDoorRingG
import Derived.Lib.SliceRun
namespace Go.Proofs.YtafdijcolponjaaDoor
open Go.RowKit

def RLeastEnds (n : Int) (z : Nat → Nat → Int) (m : Nat) (w : World) (e : Ending) (w' : World) : Prop :=
  Below w.heap.size w w' ∧ ((ofB n z m = true ∧ ∃ (best : List Nat), LeastAt n.toNat (ofZ n.toNat z m) n.toNat best ∧ ((best = [] ∧ e = .returned (.tuple #[.slice none 0 0, .int .i64 3])) ∨ (best ≠ [] ∧ ∃ v, e = .returned (.tuple #[v, .int .i64 0]) ∧ w'.ownsRow w.heap.size 3 1 v best.length (intl (natI best))))) ∨
    (ofB n z m = false ∧ e = .returned (.tuple #[.slice none 0 0, .int .i64 2])))
def RLRel (wo : World) (n : Nat) (L : List (Nat × Nat)) (bv i : Value) (wr : World) : Prop :=
  ∃ (k : Nat) (best : List Nat), k ≤ n ∧ i = .int .i64 k ∧ LeastAt n L k best ∧ best.length ≤ n ∧ ((best = [] ∧ bv = .slice none 0 0) ∨ (best ≠ [] ∧ ∃ g c, bv = .slice (some ⟨g, 0, none⟩) best.length c)) ∧ wr.ownsRow wo.heap.size 3 1 bv best.length (intl (natI best)) ∧ Below wo.heap.size wo wr

set_option maxRecDepth 20000 in
set_option maxHeartbeats 4000000 in
theorem rgleast_any (n : Int) (m c : Nat) (ad : Option Addr) (z : Nat → Nat → Int) (w : World) (hE : EdgesIn w ad m z) (hT : TabIs w) :
    Calls Tryd.prog 80 #[.int .i64 n, .slice ad m c] w (RLeastEnds n z m w) := by
  have HO := Lib.hid (gr_of n ad m c z w hE)
  have HT := Lib.hid hT
  clear hE hT
  have qT : ∀ (w : World) (a : Option Addr) (n c n' c' : Nat), (binOp .eql 22 (.slice a n c) (.slice none n' c')).run Tryd.prog w = .ok (.bool a.isNone) w := fun w a n c n' c' => Lib.run_eql_slice_nil w _ _ a n c n' c' Tryd.underlying22
  go_enter Tryd.func80, Tryd.ntmps80
  go_wp2_with fail
  go_fit HO.out
  rintro e wo (⟨hyes, b, F, rfl, hG, hF, hB⟩ | ⟨hno, rfl, hB⟩)
  · obtain ⟨hnn, hM⟩ : (0 ≤ n ∧ n ≤ 500) ∧ mayE n.toNat z m = true := by
      unfold ofB at hyes
      rw [Bool.and_eq_true] at hyes
      exact ⟨of_decide_eq_true hyes.1, hyes.2⟩
    have HY := Lib.hid hyes
    have hLr := ofZ_inr hM
    clear hyes hM
    obtain ⟨q, rfl⟩ := Int.eq_ofNat_of_zero_le hnn.1
    rw [Int.toNat_natCast] at hLr hG
    have hq : q ≤ 500 := by omega
    obtain ⟨L, hLq⟩ : ∃ L, ofZ q z m = L := ⟨_, rfl⟩
    rw [hLq] at hLr hG
    have HLq := Lib.hid hLq
    have HL := Lib.hid hLr
    have HG := Lib.hid hG
    have HB := Lib.hid hB
    have hz := hB.size
    have HTo : Hid (∀ W, Below wo.heap.size wo W → TabIs W) := fun W hW => tab_below HT.out (HB.out.trans (hW.mono hz)) (Nat.le_refl _)
    clear hLq hLr hG hF hB hnn HO
    go_wp2_with fail
    go_loopw [8, 21] (fun bv i wr => RLRel wo q L bv i wr) (fun _ i _ => q - (intOf i).toNat)
    case atStart => exact ⟨0, [], Nat.zero_le _, rfl, leastAt_zero, Nat.zero_le _, .inl ⟨rfl, rfl⟩, owns_nil, Below.refl _ _⟩
    case round =>
      obtain ⟨k, best, hk, rfl, hla, hbl, hsh, hown, hC⟩ := hrel
      obtain ⟨wa, rfl⟩ : ∃ x, x = wr := ⟨_, rfl⟩
      have HLa := Lib.hid hla
      have HSh := Lib.hid hsh
      have HOw := Lib.hid hown
      have HC := Lib.hid hC
      have hza := hC.size
      clear hla hown hC
      by_cases hlt : k < q
      · have hk0 : (0 : Int) ≤ (k : Int) := by omega
        have hk1 : (k : Int) < (q : Int) := by omega
        have HD := Lib.hid (dists_any b q k F L wa (HG.out.below HC.out (Nat.le_refl _)) hlt (HTo.out wa HC.out))
        clear hsh
        go_wp2_with fail
        go_fit HD.out
        rintro e w5 ⟨g, d, rfl, hgw, hdi, hrow, hB5⟩
        have c0 := hrow.cell hlt
        have HDi := Lib.hid hdi
        have HRw := Lib.hid hrow
        have hgl := hrow.lt
        have hC5 := HC.out.trans (hB5.mono hza)
        have HOw5 := Lib.hid (owns_of_heap HOw.out (w' := w5) fun x hx => hB5.block x (owns_lt HOw.out x hx))
        have HC5 := Lib.hid hC5
        have hz5 := hC5.size
        have hval := hdi.val k hlt (Nat.le_refl k)
        by_cases hx : 0 < d.getD k 0
        · obtain ⟨j, hj⟩ : ∃ j : Nat, d.getD k 0 = ((j + 1 : Nat) : Int) := ⟨(d.getD k 0).toNat - 1, by omega⟩
          have hjq := walkF_all HL.out hdi hlt hj
          have hwl := walkF_len HL.out hdi j k hlt (Nat.le_refl k) hj
          have HW := Lib.hid (rwalk_any b q k j g F L d w5 (HG.out.below hC5 (Nat.le_refl _)) hlt hdi hj hrow (HTo.out w5 hC5))
          have HJ := Lib.hid hj
          rw [hj, show ((j + 1 : Nat) : Int) = (j : Int) + 1 by omega] at c0
          have hj1 : (0 : Int) < (j : Int) + 1 := by omega
          clear hdi hrow hB5 hC5 hval hx hj
          by_cases hb : best = []
          · have HTk := Lib.hid (HLa.out.take HL.out HDi.out hlt HJ.out (.inl hb))
            obtain rfl : u8 = .slice none 0 0 := by
              rcases HSh.out with h | h
              · exact h.2
              · exact absurd hb h.1
            clear hb
            go_wp2_with fail
            go_fit HW.out
            rintro e w6 ⟨v6, rfl, hO6, hB6⟩
            obtain ⟨g6, c6, rfl, -, -⟩ : ∃ g c, v6 = .slice (some ⟨g, 0, none⟩) (k :: walkF q L k d j k).length c ∧ _ ∧ _ := by
              rcases owns_shape hO6 with ⟨_, h0⟩ | h
              · cases h0
              · exact h
            have HO6 := Lib.hid (owns_base (base' := wo.heap.size) hO6 fun x hx => by have := (World.ownsRow.lt hO6 x hx).1; omega)
            have HC6 := Lib.hid (HC5.out.trans (hB6.mono hz5))
            have hbl6 : (k :: walkF q L k d j k).length ≤ q := by rw [List.length_cons, hwl]; exact hjq
            generalize hbest : k :: walkF q L k d j k = nb at *
            have HSh6 : Hid (nb ≠ []) := by show _ ≠ _; rw [← hbest]; simp
            clear hO6 hB6 hbest
            go_wp2_with fail
            go_roundw
            case rel => exact ⟨k + 1, nb, hlt, by go_num, HTk.out, hbl6, .inr ⟨HSh6.out, g6, c6, rfl⟩, HO6.out, HC6.out⟩
            case measure => simp [intOf]; omega
          · obtain ⟨g8, c8, rfl⟩ : ∃ g c, u8 = .slice (some ⟨g, 0, none⟩) best.length c := by
              rcases HSh.out with h | h
              · exact absurd h.1 hb
              · exact h.2
            by_cases hbj : j + 1 < best.length
            · have HTk := Lib.hid (HLa.out.take HL.out HDi.out hlt HJ.out (.inr hbj))
              have hbj' : (j : Int) + 1 < (best.length : Int) := by omega
              clear hb hbj
              go_wp2_with fail
              go_fit HW.out
              rintro e w6 ⟨v6, rfl, hO6, hB6⟩
              obtain ⟨g6, c6, rfl, -, -⟩ : ∃ g c, v6 = .slice (some ⟨g, 0, none⟩) (k :: walkF q L k d j k).length c ∧ _ ∧ _ := by
                rcases owns_shape hO6 with ⟨_, h0⟩ | h
                · cases h0
                · exact h
              have HO6 := Lib.hid (owns_base (base' := wo.heap.size) hO6 fun x hx => by have := (World.ownsRow.lt hO6 x hx).1; omega)
              have HC6 := Lib.hid (HC5.out.trans (hB6.mono hz5))
              have hbl6 : (k :: walkF q L k d j k).length ≤ q := by rw [List.length_cons, hwl]; exact hjq
              generalize hbest : k :: walkF q L k d j k = nb at *
              have HSh6 : Hid (nb ≠ []) := by show _ ≠ _; rw [← hbest]; simp
              clear hO6 hB6 hbest
              go_wp2_with fail
              go_roundw
              case rel => exact ⟨k + 1, nb, hlt, by go_num, HTk.out, hbl6, .inr ⟨HSh6.out, g6, c6, rfl⟩, HO6.out, HC6.out⟩
              case measure => simp [intOf]; omega
            · have HTk := Lib.hid (HLa.out.keep HL.out HDi.out hlt HJ.out hb (by omega))
              have hbj' : ¬ (j : Int) + 1 < (best.length : Int) := by omega
              have HNb := Lib.hid hb
              clear hb hbj
              go_wp2_with fail
              go_roundw
              case rel => exact ⟨k + 1, best, hlt, by go_num, HTk.out, hbl, .inr ⟨HNb.out, g8, c8, rfl⟩, HOw5.out, HC5.out⟩
              case measure => simp [intOf]; omega
        · have HTk := Lib.hid (HLa.out.skip hdi hlt hx)
          generalize d.getD k 0 = x at *
          clear hdi hrow hB5 hC5 hval
          go_wp2_with fail
          go_roundw
          case rel => exact ⟨k + 1, best, hlt, by go_num, HTk.out, hbl, HSh.out, HOw5.out, HC5.out⟩
          case measure => simp [intOf]; omega
      · obtain rfl : k = q := by omega
        have HCw := Lib.hid (HB.out.trans (HC.out.mono hz))
        clear hsh
        by_cases hb : best = []
        · obtain rfl : u8 = .slice none 0 0 := by
            rcases HSh.out with h | h
            · exact h.2
            · exact absurd hb h.1
          have HNb := Lib.hid hb
          clear hb
          go_wp2_with fail
          go_ret2
          exact ⟨HCw.out, .inl ⟨HY.out, best, by rw [Int.toNat_natCast, HLq.out]; exact HLa.out, .inl ⟨HNb.out, rfl⟩⟩⟩
        · obtain ⟨g8, c8, rfl⟩ : ∃ g c, u8 = .slice (some ⟨g, 0, none⟩) best.length c := by
            rcases HSh.out with h | h
            · exact absurd h.1 hb
            · exact h.2
          have HNb := Lib.hid hb
          clear hb
          go_wp2_with fail
          go_ret2
          exact ⟨HCw.out, .inl ⟨HY.out, best, by rw [Int.toNat_natCast, HLq.out]; exact HLa.out, .inr ⟨HNb.out, _, rfl, owns_base HOw.out fun x hx => Nat.le_trans hz (World.ownsRow.lt HOw.out x hx).1⟩⟩⟩
  · have HB := Lib.hid hB
    have HN := Lib.hid hno
    clear hB hno HO
    go_wp2_with fail
    go_ret2
    exact ⟨HB.out, .inr ⟨HN.out, rfl⟩⟩
end Go.Proofs.YtafdijcolponjaaDoor
