/- The contracts of a domain's Fixed, Open, Begin, Undo. Fixed, Open: where the table lies. No other condition but those in each statement. -/
import Derived.Test.YtifjjcenmilohaaDoorDomD
namespace Go.Proofs.YtifjjcenmilohaaDoor
open Go.RowKit

def fixV (l : List Nat) : Value := if l.length = 1 then .tuple #[.int .i64 (l.getD 0 0 : Nat), .bool true] else .tuple #[.int .i64 0, .bool false]
def FixEnds (l : List Nat) (w : World) (e : Ending) (w' : World) : Prop := e = .returned (fixV l) ∧ Below w.heap.size w w'

theorem dfixed_any (d : Nat) (F sz X : List Nat) (T : TM) (v : Int) (w : World) (h : DomAt w d F sz T) (hk : DOk sz X T) (hTab : TabIs w) :
    Calls Tryd.prog 21 #[.pointer (some ⟨d, 0, none⟩), .int .i64 v] w (FixEnds (leftL sz X v) w) := by
  have hL := dleftL_any d F sz X T v w h hk hTab
  generalize leftL sz X v = l at *
  unfold ListEnds at hL
  unfold FixEnds fixV
  have HL := Lib.hid hL
  clear hL h hk hTab
  by_cases h1 : l.length = 1
  · rw [if_pos h1]
    rw [h1] at HL
    obtain ⟨y, hy⟩ : ∃ y, y = l.getD 0 0 := ⟨_, rfl⟩
    rw [← hy]
    have HY := Lib.hid hy
    clear hy
    go_enter Tryd.func21, Tryd.ntmps21
    go_wp2_with fail
    go_fit HL.out
    rintro e w1 ⟨v1, rfl, hown, hB⟩
    rcases owns_shape hown with ⟨-, h0⟩ | ⟨g, c, rfl, hc, -⟩
    · omega
    · have c0 : w1.cell? ⟨g, 0, none⟩ = some (.int .i64 y) := by
        rw [hown.cellAt 0 (by omega), HY.out]
        simp [intl, natI, h1]
      have HB := Lib.hid hB
      clear hown hB h1
      go_wp2_with fail
      go_ret2
      exact ⟨rfl, HB.out⟩
  · rw [if_neg h1]
    have hq : ((l.length : Int) != 1) = true := by simp; omega
    have h1' : ¬ ((l.length : Int) = 1) := by omega
    generalize l.length = n at *
    clear h1
    go_enter Tryd.func21, Tryd.ntmps21
    go_wp2_with fail
    go_fit HL.out
    rintro e w1 ⟨v1, rfl, hown, hB⟩
    obtain ⟨ad, c, rfl⟩ := slice_form hown
    have HB := Lib.hid hB
    clear hown hB
    go_wp2_with fail
    go_ret2
    exact ⟨rfl, HB.out⟩

theorem filter_succ (p : Nat → Bool) (k : Nat) : (List.range (k + 1)).filter p = (List.range k).filter p ++ (if p k = true then [k] else []) := by
  rw [List.range_succ, List.filter_append]
  congr 1
  cases h : p k <;> simp [h]
theorem filter_len (p : Nat → Bool) (k : Nat) : ((List.range k).filter p).length ≤ k := by
  have := List.length_filter_le p (List.range k)
  simpa using this
def isOpen (sz X : List Nat) (v : Nat) : Bool := !decide ((leftL sz X v).length = 1)
def openL (sz X : List Nat) : List Nat := (List.range sz.length).filter (isOpen sz X)
def RListRel (w : World) (n : Nat) (p : Nat → Bool) (v i : Value) (wr : World) : Prop :=
  ∃ k : Nat, k ≤ n ∧ i = .int .i64 k ∧ wr.ownsRow w.heap.size 3 1 v ((List.range k).filter p).length (intl (natI ((List.range k).filter p))) ∧ Below w.heap.size w wr

theorem dopen_any (d : Nat) (F sz X : List Nat) (T : TM) (w : World) (h : DomAt w d F sz T) (hk : DOk sz X T) (hTab : TabIs w) (hn : sz.length ≤ 200) :
    Calls Tryd.prog 24 #[.pointer (some ⟨d, 0, none⟩)] w (ListEnds (openL sz X) w) := by
  have HD := Lib.hid h
  have HK := Lib.hid hk
  have HT := Lib.hid hTab
  obtain ⟨i0, hi, hz0, hz1, hz2⟩ := info_parts infoInt
  obtain ⟨b, vs, Ft, h1, h2, -⟩ := h
  obtain ⟨ad, c, rfl⟩ := slice_form h2
  have c1 : w.cell? ⟨d, 1, none⟩ = some (.slice ad sz.length c) := cell_at 1 h1 rfl
  unfold openL
  obtain ⟨p, hp⟩ : ∃ p, p = isOpen sz X := ⟨_, rfl⟩
  rw [← hp]
  have HP := Lib.hid hp
  clear hp
  clear h1 h2 hk hTab
  go_enter Tryd.func24, Tryd.ntmps24
  go_wp2_with fail
  go_loopw [3, 14] (fun v i wr => RListRel w sz.length p v i wr) (fun _ i _ => sz.length - (intOf i).toNat)
  case atStart => exact ⟨0, Nat.zero_le _, rfl, ⟨rfl, .inl ⟨rfl, rfl⟩⟩, Below.refl _ _⟩
  case round =>
    obtain ⟨k, hk, rfl, hown, hB⟩ := hrel
    have hX := dfixed_any d F sz X T k wr (HD.out.below hB (Nat.le_refl _)) HK.out (tab_below HT.out hB (Nat.le_refl _))
    have hpk : p k = !decide ((leftL sz X k).length = 1) := by rw [HP.out]; rfl
    have HS := Lib.hid (filter_succ p k)
    have HL := filter_len p k
    have hk0 : (0 : Int) ≤ (k : Int) := by omega
    by_cases hlt : k < sz.length
    · have hk1 : (k : Int) < (sz.length : Int) := by omega
      generalize leftL sz X k = lv at *
      generalize (List.range k).filter p = l at *
      have HO := Lib.hid hown
      have HB := Lib.hid hB
      unfold FixEnds fixV at hX
      have HM : Hid (l.length + 1 ≤ maxLen ∧ (l.length + 1) * 8 ≤ 140737488355328) := by
        show _ ∧ _
        unfold maxLen; omega
      clear hown hB
      by_cases hf : lv.length = 1
      · rw [if_pos hf] at hX
        have hq : p k = false := by rw [hpk, decide_eq_true hf]; rfl
        rw [hq, if_neg (by simp), List.append_nil] at HS
        have HXx := Lib.hid hX
        generalize lv.getD 0 0 = y at *
        clear hX hq hpk hf
        go_wp2_with fail
        go_fit HXx.out
        rintro e w1 ⟨rfl, hB1⟩
        have HB1 := Lib.hid (HB.out.trans (hB1.mono HB.out.size))
        have HO1 := Lib.hid (owns_of_heap HO.out fun q hq => hB1.block q (owns_lt HO.out q hq))
        clear hB1
        go_wp2_with fail
        go_roundw
        case rel => exact ⟨k + 1, by omega, by go_num, by rw [HS.out]; exact HO1.out, HB1.out⟩
        case measure => simp [intOf]; omega
      · rw [if_neg hf] at hX
        have hq : p k = true := by rw [hpk, decide_eq_false hf]; rfl
        rw [hq, if_pos rfl] at HS
        have HXx := Lib.hid hX
        clear hX hq hpk hf
        go_wp2_with fail
        go_fit HXx.out
        rintro e w1 ⟨rfl, hB1⟩
        have HB1 := Lib.hid (HB.out.trans (hB1.mono HB.out.size))
        have HO1 := Lib.hid (owns_of_heap HO.out fun q hq => hB1.block q (owns_lt HO.out q hq))
        have hb := HB1.out.size
        have hb2 : Hid (∀ o, w.heap.size ≤ (w1.alloc o).heap.size) := fun o => by simp; omega
        clear hB1 hb
        go_wp2_with (first | (at_builtin; go_loud (refine wpList_append_own _ rfl _ _ 22 rfl w.heap.size 3 i0 (.int .i64 0) 1 8 Tryd.underlying22 hi hz0 hz1 hz2 rfl (by decide) _ l.length (intl (natI l)) rfl (HO1.out.alloc _) ⟨w1.heap.size, 0, none⟩ 1 1 [_] rfl rfl (one_new w1 _ _) (one_cell _ _) HM.out.1 HM.out.2 (hb2.out _) ?_)) | fail)
        intro v' w2 hown1 hgrow hnn
        have HO2 := Lib.hid hown1
        have HG := Lib.hid hgrow
        clear hnn hown1 hgrow
        go_wp2_with fail
        go_roundw
        case rel =>
          refine ⟨k + 1, by omega, by go_num, ?_, (HB1.out.alloc HB1.out.size _).grown HG.out (hb2.out _) (fun q hq => (World.ownsRow.lt HO1.out q hq).1)⟩
          rw [HS.out]
          have e : intl (natI (l ++ [k])) = intl (natI l) ++ [Value.int .i64 (k : Int)] := by simp [intl, natI]
          rw [e, List.length_append]
          exact HO2.out
        case measure => simp [intOf]; omega
    · have e : k = sz.length := by omega
      subst e
      have HO := Lib.hid hown
      have HB := Lib.hid hB
      clear hown hB hX hpk
      go_wp2_with fail
      go_ret
      exact ⟨_, rfl, HO.out, HB.out⟩

theorem dbegin_any (d : Nat) (F sz : List Nat) (T : TM) (N : Nat) (w : World) (h : DomAt w d F sz T) (hok : T.ok N) (hN : N ≤ 1099511627776) :
    Calls Tryd.prog 16 #[.pointer (some ⟨d, 0, none⟩)] w (DEnds d F (.int .i64 (beginF T).1) sz (beginF T).2 w) := by
  obtain ⟨b, vs, Ft, h1, h2, hT, hcl, rfl, hNd⟩ := h
  have c0 : w.cell? ⟨d, 0, none⟩ = some (.pointer (some ⟨b, 0, none⟩)) := cell_at 0 h1 rfl
  have HS := Lib.hid (begin_any b Ft T w hT hok hN)
  have hlen : (beginF T).2.cells.length = sz.length := by unfold beginF; split <;> exact hcl
  generalize beginF T = bt at *
  obtain ⟨t1, t2⟩ := bt
  have HD := Lib.hid (fun e w' he => dom_step (T' := t2) (w := w) (w' := w') (e := e) (v := .int .i64 t1) h1 h2 hNd he hlen)
  clear h1 h2 hT hcl hNd hok hlen
  go_enter Tryd.func16, Tryd.ntmps16
  go_wp2_with fail
  go_fit HS.out
  intro e w6 he
  have HE := Lib.hid (HD.out e w6 he).2
  obtain ⟨rfl, -⟩ := he
  go_wp2_with fail
  go_ret
  exact ⟨rfl, HE.out⟩

theorem back_len (ch : List (Nat × Int)) (cells : List Int) : (back ch cells).length = cells.length := back_length ch cells
theorem dundo_any (d : Nat) (F sz : List Nat) (T : TM) (N : Nat) (w : World) (h : DomAt w d F sz T) (hok : T.ok N) (hN : N ≤ 1099511627776) :
    Calls Tryd.prog 18 #[.pointer (some ⟨d, 0, none⟩)] w (DEnds d F (.int .i64 (undoF T).1) sz (undoF T).2 w) := by
  obtain ⟨b, vs, Ft, h1, h2, hT, hcl, rfl, hNd⟩ := h
  have c0 : w.cell? ⟨d, 0, none⟩ = some (.pointer (some ⟨b, 0, none⟩)) := cell_at 0 h1 rfl
  have HS := Lib.hid (undo_any b Ft T w hT hok hN)
  have hlen : (undoF T).2.cells.length = sz.length := by
    unfold undoF; split
    · exact hcl
    · show (back _ T.cells).length = _
      rw [back_len]; exact hcl
  generalize undoF T = bt at *
  obtain ⟨t1, t2⟩ := bt
  have HD := Lib.hid (fun e w' he => dom_step (T' := t2) (w := w) (w' := w') (e := e) (v := .int .i64 t1) h1 h2 hNd he hlen)
  clear h1 h2 hT hcl hNd hok hlen
  go_enter Tryd.func18, Tryd.ntmps18
  go_wp2_with fail
  go_fit HS.out
  intro e w6 he
  have HE := Lib.hid (HD.out e w6 he).2
  obtain ⟨rfl, -⟩ := he
  go_wp2_with fail
  go_ret
  exact ⟨rfl, HE.out⟩
end Go.Proofs.YtifjjcenmilohaaDoor
