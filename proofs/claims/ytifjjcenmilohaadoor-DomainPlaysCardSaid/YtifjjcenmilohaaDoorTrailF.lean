/- The contract of a trail's Undo. Condition: what the changes name are cells, and the last beginning's mark is one. -/
import Derived.Test.YtifjjcenmilohaaDoorTrailE
namespace Go.Proofs.YtifjjcenmilohaaDoor
open Go.RowKit

/-- What changes say was there, put back, the last one first. -/
def back (ch : List (Nat × Int)) (cells : List Int) : List Int := ch.foldr (fun x l => l.set x.1 x.2) cells
theorem back_length (ch : List (Nat × Int)) (cells : List Int) : (back ch cells).length = cells.length := by
  induction ch with
  | nil => rfl
  | cons x r ih => simp [back] at ih ⊢; exact ih

theorem undo_none (b : Nat) (F : List Nat) (T : TM) (w : World) (h : TrailAt w b F T) (hm : T.marks = []) :
    Calls Tryd.prog 34 #[.pointer (some ⟨b, 0, none⟩)] w fun e w' => e = .returned (.int .i64 3) ∧ w = w' := by
  have hc := Lib.hid (end_none b F T w h hm)
  clear h hm
  go_enter Tryd.func34, Tryd.ntmps34
  go_wp2_with fail
  refine hc.out.mono ?_
  rintro e w' ⟨rfl, rfl⟩
  go_wp2_with fail
  go_ret
  exact ⟨rfl, rfl⟩

theorem flat_nth (l : List (Nat × Int)) {j : Nat} (h : j < l.length) :
    (flat l)[j * 2]? = some (.int .i64 ((l.getD j (0, 0)).1 : Int)) ∧ (flat l)[j * 2 + 1]? = some (.int .i64 (l.getD j (0, 0)).2) := by
  induction l generalizing j with
  | nil => simp at h
  | cons x r ih =>
    match j, h with
    | 0, _ => exact ⟨rfl, rfl⟩
    | j + 1, h =>
      have := ih (j := j) (by simpa using h)
      have e : (j + 1) * 2 = j * 2 + 1 + 1 := by omega
      rw [e]
      simpa [flat] using this

theorem back_step (ch : List (Nat × Int)) (cells : List Int) {j : Nat} (h : j < ch.length) :
    back (ch.drop j) cells = (back (ch.drop (j + 1)) cells).set (ch.getD j (0, 0)).1 (ch.getD j (0, 0)).2 := by
  have e : ch.getD j (0, 0) = ch[j] := by simp [List.getD, h]
  rw [e, List.drop_eq_getElem_cons h]
  rfl

/-- A cell of a trail's row is written. -/
theorem trail_store {w : World} {b : Nat} {F : List Nat} {T : TM} {a : Addr} {n cc : Nat} {x y z : Value} (h : TrailAt w b F T)
    (hb : w.heap[b]? = some (.cells #[.slice (some a) n cc, x, y, z] 64 (0, 0))) (c : Nat) (v : Int) :
    TrailAt (w.setCell ⟨a.block, c, none⟩ (.int .i64 v)) b F { T with cells := T.cells.set c v } ∧ a.block ∈ F := by
  obtain ⟨gc, cc', vch, vm, h1, hcs, hch, ho, hF, hN⟩ := h
  rw [h1] at hb
  simp only [Option.some.injEq, Obj.cells.injEq, Array.mk.injEq, List.cons.injEq, Value.slice.injEq, and_true] at hb
  obtain ⟨⟨⟨rfl, _, _⟩, _⟩, _⟩ := hb
  have hN' := hN
  rw [hF] at hN'
  simp only [List.nodup_cons, List.mem_cons, List.mem_append, not_or] at hN'
  obtain ⟨⟨hb1, hb2, hb3⟩, ⟨hg1, hg2⟩, hn3⟩ := hN'
  have hne : ∀ k, k ≠ gc → (w.setCell ⟨gc, c, none⟩ (.int .i64 v)).heap[k]? = w.heap[k]? := fun k hk => heap_set_ne c _ hk
  refine ⟨⟨gc, cc', vch, vm, (hne b hb1).trans ?_, ?_, ?_, ?_, hF, hN⟩, by rw [hF]; simp⟩
  · simp only [List.length_set]; exact h1
  · simp only [List.length_set, ints_set]; exact (hcs.stored c (.int .i64 v)).1
  · exact owns_of_heap hch fun k hk => hne k (by rintro rfl; exact hg1 (mem_ownL.2 hk))
  · exact owns_of_heap ho fun k hk => hne k (by rintro rfl; exact hg2 (mem_ownL.2 hk))

theorem TrailAt.alloc {w : World} {b : Nat} {F : List Nat} {T : TM} (h : TrailAt w b F T) (o : Obj) : TrailAt (w.alloc o) b F T :=
  h.frame fun k hk => heap_alloc_lt (h.lt k hk)
theorem TrailAt.drew {w : World} {b : Nat} {F : List Nat} {T : TM} (h : TrailAt w b F T) : TrailAt w.drew b F T := h
theorem TrailAt.drewN {w : World} {b : Nat} {F : List Nat} {T : TM} (h : TrailAt w b F T) (n : Nat) : TrailAt (w.drewN n) b F T := h

/-- A second change within F1, all of whose blocks are F's or new. -/
theorem chg_then {w w1 w2 : World} {F F1 : List Nat} (h1 : Chg (· ∈ F) w w1) (hF : ∀ k ∈ F1, k ∈ F ∨ w.heap.size ≤ k) (h : Chg (· ∈ F1) w1 w2) : Chg (· ∈ F) w w2 :=
  ⟨h.os.trans h1.os, h.tape.trans h1.tape, h.output.trans h1.output, Nat.le_trans h1.size h.size, fun k hk hf =>
    (h.block k (Nat.lt_of_lt_of_le hk h1.size) (fun h' => by rcases hF k h' with g | g; exact hf g; omega)).trans (h1.block k hk hf)⟩

theorem TrailAt.open {w : World} {b : Nat} {F : List Nat} {cells : List Int} {ch : List (Nat × Int)} {ms : List Nat} (h : TrailAt w b F ⟨cells, ch, ms⟩) :
    ∃ gc cc vch vm, w.heap[b]? = some (.cells #[.slice (some ⟨gc, 0, none⟩) cells.length cc, vch, vm, .bool true] 64 (0, 0)) ∧
    w.ownsRow 0 3 1 (.slice (some ⟨gc, 0, none⟩) cells.length cc) cells.length (ints cells) ∧
    w.ownsRow 0 68 2 vch ch.length (flat ch) ∧
    w.ownsRow 0 3 1 vm ms.length (nats ms) ∧
    F = b :: gc :: (ownL vch ++ ownL vm) ∧ F.Nodup := h

theorem flat_take (l : List (Nat × Int)) (m : Nat) : flat (l.take m) = (flat l).take (m * 2) := by
  induction l generalizing m with
  | nil => simp [flat]
  | cons x r ih =>
    match m with
    | 0 => simp [flat]
    | m + 1 => rw [show (m + 1) * 2 = m * 2 + 1 + 1 from by omega]; simp [flat, ih]

theorem trail_cut {w : World} {b : Nat} {F : List Nat} {cells : List Int} {ch : List (Nat × Int)} {ms : List Nat} {g n kc m : Nat} {x z y : Value} (h : TrailAt w b F ⟨cells, ch, ms⟩)
    (hb : w.heap[b]? = some (.cells #[x, .slice (some ⟨g, 0, none⟩) n kc, y, z] 64 (0, 0))) (hm : m ≤ ch.length) :
    TrailAt (w.setCell ⟨b, 1, none⟩ (.slice (some ⟨g, 0, none⟩) m kc)) b F ⟨cells, ch.take m, ms⟩ ∧ b ∈ F := by
  obtain ⟨gc, cc', vch, vm, h1, hcs, hch, ho, hF, hN⟩ := h.open
  rw [h1] at hb
  simp only [Option.some.injEq, Obj.cells.injEq, Array.mk.injEq, List.cons.injEq, and_true] at hb
  obtain ⟨-, rfl, -, -⟩ := hb
  have hn : n = ch.length := by
    rcases owns_shape hch with ⟨h, _⟩ | ⟨_, _, h, _⟩
    · cases h
    · cases h; rfl
  subst hn
  have hN' := hN
  rw [hF] at hN'
  simp only [List.nodup_cons, List.mem_cons, List.mem_append, not_or] at hN'
  obtain ⟨⟨hb1, hb2, hb3⟩, ⟨hg1, hg2⟩, hn3⟩ := hN'
  have hne : ∀ k, k ≠ b → (w.setCell ⟨b, 1, none⟩ (.slice (some ⟨g, 0, none⟩) m kc)).heap[k]? = w.heap[k]? := fun k hk => heap_set_ne 1 _ hk
  refine ⟨⟨gc, cc', .slice (some ⟨g, 0, none⟩) m kc, vm, heap_set 1 _ h1, ?_, ?_, ?_, hF, hN⟩, by rw [hF]; simp⟩
  · exact owns_of_heap hcs fun k hk => by cases hk; exact hne gc (Ne.symm hb1)
  · rw [flat_take, List.length_take, Nat.min_eq_left hm]
    exact owns_of_heap (owns_take hm hch) fun k hk => by cases hk; exact hne g (by rintro rfl; exact hb2 (by simp [ownL_some]))
  · exact owns_of_heap ho fun k hk => hne k (by rintro rfl; exact hb3 (mem_ownL.2 hk))

theorem trail_cut_nil {w : World} {b : Nat} {F : List Nat} {cells : List Int} {ch : List (Nat × Int)} {ms : List Nat} {x z y : Value} (h : TrailAt w b F ⟨cells, ch, ms⟩)
    (hb : w.heap[b]? = some (.cells #[x, .slice none 0 0, y, z] 64 (0, 0))) (hc : ch.length = 0) :
    TrailAt (w.setCell ⟨b, 1, none⟩ (.slice none 0 0)) b F ⟨cells, [], ms⟩ ∧ b ∈ F := by
  obtain ⟨gc, cc', vch, vm, h1, hcs, hch, ho, hF, hN⟩ := h.open
  rw [h1] at hb
  simp only [Option.some.injEq, Obj.cells.injEq, Array.mk.injEq, List.cons.injEq, and_true] at hb
  obtain ⟨-, rfl, -, -⟩ := hb
  obtain rfl : ch = [] := List.eq_nil_of_length_eq_zero hc
  have hN' := hN
  rw [hF] at hN'
  simp only [List.nodup_cons, List.mem_cons, List.mem_append, not_or] at hN'
  obtain ⟨⟨hb1, hb2, hb3⟩, ⟨hg1, hg2⟩, hn3⟩ := hN'
  have hne : ∀ k, k ≠ b → (w.setCell ⟨b, 1, none⟩ (.slice none 0 0)).heap[k]? = w.heap[k]? := fun k hk => heap_set_ne 1 _ hk
  refine ⟨⟨gc, cc', .slice none 0 0, vm, heap_set 1 _ h1, ?_, ?_, ?_, hF, hN⟩, by rw [hF]; simp⟩
  · exact owns_of_heap hcs fun k hk => by cases hk; exact hne gc (Ne.symm hb1)
  · exact owns_of_heap hch fun k hk => by cases hk
  · exact owns_of_heap ho fun k hk => hne k (by rintro rfl; exact hb3 (mem_ownL.2 hk))

/-- The loop's relation: k changes are put back. -/
def UndoRel (b : Nat) (F1 : List Nat) (cells : List Int) (ch : List (Nat × Int)) (ms : List Nat) (n m : Nat) (w1 : World) (i : Value) (wr : World) : Prop :=
  ∃ k : Nat, k ≤ n - m ∧ i = .int .i64 k ∧ TrailAt wr b F1 ⟨back (ch.drop (n - k)) cells, ch, ms⟩ ∧ Chg (· ∈ F1) w1 wr

set_option maxHeartbeats 1000000 in
theorem undo_some (b : Nat) (F : List Nat) (cells : List Int) (ch : List (Nat × Int)) (ms : List Nat) (m : Nat) (w : World) (h : TrailAt w b F ⟨cells, ch, ms ++ [m]⟩) (hmn : m ≤ ch.length)
    (hin : ∀ x ∈ ch, x.1 < cells.length) (hch9 : ch.length ≤ 1099511627776) :
    Calls Tryd.prog 34 #[.pointer (some ⟨b, 0, none⟩)] w
      (TEnds b F (.int .i64 0) ⟨back (ch.drop m) cells, ch.take m, ms⟩ w) := by
  have hc := Lib.hid (end_some b F _ ms m w h rfl)
  have HIN := Lib.hid hin
  clear h hin
  go_enter Tryd.func34, Tryd.ntmps34
  go_wp2_with fail
  refine hc.out.mono ?_
  rintro e w1 ⟨rfl, F1, h1, hF1, hC1⟩
  have H1 := Lib.hid h1
  have HF1 := Lib.hid hF1
  have HC1 := Lib.hid hC1
  obtain ⟨gc, cc, vch, vm, hb, -, hch, -, -⟩ := h1
  change w1.heap[b]? = some (.cells #[.slice (some ⟨gc, 0, none⟩) cells.length cc, vch, vm, .bool true] 64 (0, 0)) at hb
  change w1.ownsRow 0 68 2 vch ch.length (flat ch) at hch
  have c1 : w1.cell? ⟨b, 1, none⟩ = some vch := cell_at 1 hb rfl
  have hlen : ∃ ac kc, vch = .slice ac ch.length kc := by
    rcases owns_shape hch with ⟨rfl, hl⟩ | ⟨g, c, rfl, _⟩
    · exact ⟨none, 0, by rw [hl]⟩
    · exact ⟨_, _, rfl⟩
  obtain ⟨ac, kc, rfl⟩ := hlen
  clear hb hch hF1 hC1 hc
  generalize hlc : ch.length = n at *
  have HLC := Lib.hid hlc
  clear hlc
  have hsub : ((n : Int) - (m : Int)) = ((n - m : Nat) : Int) := by omega
  go_wp2_with fail
  go_loopw [24] (fun i wr => UndoRel b F1 cells ch ms n m w1 i wr) (fun i _ => n - m - (intOf i).toNat)
  case atStart => exact ⟨0, Nat.zero_le _, rfl, by rw [Nat.sub_zero, ← HLC.out, List.drop_length]; exact H1.out, Chg.refl _ _⟩
  case round =>
    clear c1 hsub
    obtain ⟨k, hk, rfl, hT, hCr⟩ := hrel
    by_cases hlt : k < n - m
    · obtain ⟨j, hj⟩ : ∃ j, j = n - 1 - k := ⟨_, rfl⟩
      have hji : (n : Int) - 1 - (k : Int) = (j : Int) := by omega
      have hjn : j < n := by omega
      have hjc : j < ch.length := by rw [HLC.out]; exact hjn
      have hjk : n - k = j + 1 := by omega
      have hjk2 : n - (k + 1) = j := by omega
      rw [hjk] at hT
      have HT := Lib.hid hT
      have HJ := Lib.hid hjk2
      obtain ⟨hf1, hf2⟩ := flat_nth ch hjc
      have hxin : (ch.getD j (0, 0)).1 < cells.length := HIN.out _ (by simp [List.getD, hjc])
      obtain ⟨gc2, cc2, vch2, vm2, hb2, hcs2, hch2, -, hF2, hN2⟩ := hT
      have hbl := back_length (ch.drop (j + 1)) cells
      change wr.ownsRow 0 68 2 vch2 ch.length (flat ch) at hch2
      change wr.heap[b]? = some (.cells #[.slice (some ⟨gc2, 0, none⟩) (back (ch.drop (j + 1)) cells).length cc2, vch2, vm2, .bool true] 64 (0, 0)) at hb2
      change wr.ownsRow 0 3 1 (.slice (some ⟨gc2, 0, none⟩) (back (ch.drop (j + 1)) cells).length cc2) (back (ch.drop (j + 1)) cells).length (ints (back (ch.drop (j + 1)) cells)) at hcs2
      rw [hbl] at hb2 hcs2
      rcases owns_shape hch2 with ⟨rfl, hl⟩ | ⟨gh, kc2, rfl, hle2, hmx2⟩
      · omega
      · have e0 : wr.cell? ⟨b, 0, none⟩ = some (.slice (some ⟨gc2, 0, none⟩) cells.length cc2) := cell_at 0 hb2 rfl
        have e1 : wr.cell? ⟨b, 1, none⟩ = some (.slice (some ⟨gh, 0, none⟩) ch.length kc2) := cell_at 1 hb2 rfl
        have e2 : wr.cell? ⟨gh, j * 2, none⟩ = _ := (hch2.cellAt (j * 2) (by omega)).trans hf1
        have e3 : wr.cell? ⟨gh, j * 2 + 1, none⟩ = _ := (hch2.cellAt (j * 2 + 1) (by omega)).trans hf2
        have HB2 := Lib.hid hb2
        have HS := Lib.hid (back_step ch cells hjc)
        generalize ch.getD j (0, 0) = x at *
        obtain ⟨c, v⟩ := x
        simp only at e2 e3 hxin
        have e4 : ∃ z, wr.cell? ⟨gc2, c, none⟩ = some (.int .i64 z) := by
          refine ⟨_, (hcs2.cellAt c (by omega)).trans (ints_nth _ (by rw [back_length]; exact hxin))⟩
        obtain ⟨z, e4⟩ := e4
        have f4 := hcs2.frozenAt c
        have hcap := (owns_shape hcs2).resolve_left (by rintro ⟨h, _⟩; cases h)
        obtain ⟨g', cap', hv, hle3, hmx3⟩ := hcap
        cases hv
        have hgw : gc2 < wr.heap.size := (World.ownsRow.lt hcs2 gc2 rfl).2
        have HCr := Lib.hid hCr
        have hbw := lt_of_block hb2
        rw [HLC.out] at e1 hle2
        unfold maxLen at hmx2 hmx3
        clear hb2 hcs2 hch2 hF2 hN2 hf1 hf2 hCr hj hjk hjk2 hbl
        go_wp2_with fail
        go_region
        go_wp2_with fail
        go_roundw
        case rel =>
          refine ⟨k + 1, by omega, by go_num, ?_, ?_⟩
          · rw [HJ.out, HS.out]
            exact (((trail_store HT.out HB2.out c v).1).alloc _).drew
          · exact ((HCr.out.setCell (p := ⟨gc2, c, none⟩) (.inl (trail_store HT.out HB2.out c v).2) _).alloc _).drew
        case measure => simp [intOf]; omega
    · obtain rfl : k = n - m := by omega
      rw [show n - (n - m) = m from by omega] at hT
      have HT := Lib.hid hT
      have HCr := Lib.hid hCr
      obtain ⟨gc2, cc2, vch2, vm2, hb2, hcs2, hch2, hmk2, hF2, hN2⟩ := hT
      change wr.ownsRow 0 68 2 vch2 ch.length (flat ch) at hch2
      have e1 : wr.cell? ⟨b, 1, none⟩ = some vch2 := cell_at 1 hb2 rfl
      have f1 := free_at 1 hb2
      have hbw := lt_of_block hb2
      rcases owns_shape hch2 with ⟨rfl, hl⟩ | ⟨gh, kc2, rfl, hle2, hmx2⟩
      · have hn0 : n = 0 := by rw [← HLC.out]; exact hl
        obtain rfl : n = 0 := hn0
        obtain rfl : m = 0 := by omega
        have HB2 := Lib.hid hb2
        clear hb2 hcs2 hch2 hF2 hmk2 hN2 hCr hl
        go_wp2_with fail
        go_ret
        have hcut := trail_cut_nil HT.out HB2.out HLC.out
        refine ⟨rfl, F1, ?_, HF1.out, chg_then HC1.out HF1.out (HCr.out.setCell (.inl hcut.2) _)⟩
        exact hcut.1
      · rw [HLC.out] at e1 hle2
        unfold maxLen at hmx2
        have HB2 := Lib.hid hb2
        clear hb2 hcs2 hch2 hF2 hmk2 hN2 hCr
        go_wp2_with fail
        go_ret
        have hcut := trail_cut HT.out HB2.out (by rw [HLC.out]; exact hmn)
        exact ⟨rfl, F1, hcut.1, HF1.out, chg_then HC1.out HF1.out (HCr.out.setCell (.inl hcut.2) _)⟩
end Go.Proofs.YtifjjcenmilohaaDoor
