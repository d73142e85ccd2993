/- The contract of a trail's Set. Condition: at most 2 to the power 40 changes. -/
import Derived.Test.YtifjjcenmilohaaDoorTrailC
namespace Go.Proofs.YtifjjcenmilohaaDoor
open Go.RowKit

/-- What Set makes of a trail, where there is the cell. -/
def TM.set (T : TM) (c : Nat) (v : Int) : TM :=
  { T with cells := T.cells.set c v, ch := if T.marks.length = 0 then T.ch else T.ch ++ [(c, T.cells.getD c 0)] }

theorem infoChange : (Tryd.prog.info? 68).map (fun i => (i.zero, i.size, i.bytes)) = some (some (.agg #[.int .i64 0, .int .i64 0]), 2, 16) := by kernel_rfl

theorem set_no (b : Nat) (F : List Nat) (T : TM) (c v : Int) (w : World) (h : TrailAt w b F T) (hc : c < 0 ∨ T.cells.length ≤ c) :
    Calls Tryd.prog 37 #[.pointer (some ⟨b, 0, none⟩), .int .i64 c, .int .i64 v] w fun e w' => e = .returned (.int .i64 2) ∧ w = w' := by
  have his := Lib.hid (is_any b F T w h)
  have hha := has_any b F T c w h
  rw [TM.has_no hc] at hha
  have hha' := Lib.hid hha
  clear hha h hc
  go_enter Tryd.func37, Tryd.ntmps37
  go_wp2_with fail
  refine his.out.mono ?_
  rintro e w' ⟨rfl, rfl⟩
  go_wp2_with fail
  refine hha'.out.mono ?_
  rintro e w' ⟨rfl, rfl⟩
  go_wp2_with fail
  go_ret
  exact ⟨rfl, rfl⟩

theorem ints_set (l : List Int) (c : Nat) (v : Int) : ints (l.set c v) = (ints l).set c (.int .i64 v) := by simp [ints, List.map_set]

/-- No level: the cell alone is written. -/
theorem set_flat (b : Nat) (F : List Nat) (T : TM) (c : Nat) (v : Int) (w : World) (h : TrailAt w b F T) (hc : c < T.cells.length) (hm : T.marks = []) :
    Calls Tryd.prog 37 #[.pointer (some ⟨b, 0, none⟩), .int .i64 c, .int .i64 v] w (TEnds b F (.int .i64 0) (T.set c v) w) := by
  have his := Lib.hid (is_any b F T w h)
  have hha := has_any b F T c w h
  rw [TM.has_yes (by omega) (by omega)] at hha
  have hha' := Lib.hid hha
  have HT : Hid (T.set c v = { T with cells := T.cells.set c v }) := by show _ = _; simp [TM.set, hm]
  have HM := Lib.hid hm
  obtain ⟨gc, cc, vch, vm, h1, hcs, hch, ho, hF, hN⟩ := h
  have c0 : w.cell? ⟨b, 0, none⟩ = some (.slice (some ⟨gc, 0, none⟩) T.cells.length cc) := cell_at 0 h1 rfl
  have c2 : w.cell? ⟨b, 2, none⟩ = some vm := cell_at 2 h1 rfl
  have cx : w.cell? ⟨gc, c, none⟩ = some (.int .i64 (T.cells.getD c 0)) := (hcs.cellAt c (by omega)).trans (ints_nth _ hc)
  have fx := hcs.frozenAt c
  obtain ⟨hst, -⟩ := hcs.stored c (.int .i64 v)
  have hcap := (owns_shape hcs).resolve_left (by rintro ⟨h, _⟩; cases h)
  obtain ⟨g', cap', hv, hle, hmx⟩ := hcap
  cases hv
  unfold maxLen at hmx
  have hbw := lt_of_block h1
  have hgw := owns_lt hcs gc rfl
  have H1 := Lib.hid h1
  have HST := Lib.hid hst
  have HCH := Lib.hid hch
  have HO := Lib.hid ho
  have HF := Lib.hid hF
  have HN := Lib.hid hN
  have ho0 := ho
  rw [hm] at ho0
  have hvm : ∃ am km, vm = .slice am 0 km := by
    rcases owns_shape ho0 with ⟨rfl, hl⟩ | ⟨g, c, rfl, _⟩
    · exact ⟨none, 0, rfl⟩
    · exact ⟨_, _, rfl⟩
  obtain ⟨am, km, rfl⟩ := hvm
  clear h1 hcs hch ho hF hN hst hm hha ho0
  generalize T.cells.getD c 0 = x at *
  generalize hln : T.cells.length = ln at *
  have HLN := Lib.hid hln
  clear hln
  go_enter Tryd.func37, Tryd.ntmps37
  go_wp2_with fail
  refine his.out.mono ?_
  rintro e w' ⟨rfl, rfl⟩
  go_wp2_with fail
  refine hha'.out.mono ?_
  rintro e w' ⟨rfl, rfl⟩
  go_wp2_with fail
  go_ret
  refine ⟨rfl, ?_⟩
  obtain rfl := HLN.out
  have hF := HF.out
  have hN := HN.out
  rw [hF] at hN
  simp only [List.nodup_cons, List.mem_cons, List.mem_append, not_or] at hN
  obtain ⟨⟨hb1, hb2, hb3⟩, ⟨hg1, hg2⟩, hn3⟩ := hN
  have hne : ∀ k, k ≠ gc → (w.setCell ⟨gc, c, none⟩ (.int .i64 v)).heap[k]? = w.heap[k]? := fun k hk => heap_set_ne c _ hk
  rw [HT.out]
  refine ⟨F, ⟨gc, cc, vch, _, (hne b hb1).trans ?_, ?_, ?_, ?_, hF, HN.out⟩, fun k hk => .inl hk, ?_⟩
  · simp only [List.length_set]; exact H1.out
  · simp only [List.length_set, ints_set]; exact HST.out
  · exact owns_of_heap HCH.out fun k hk => hne k (by rintro rfl; exact hg1 (mem_ownL.2 hk))
  · exact owns_of_heap HO.out fun k hk => hne k (by rintro rfl; exact hg2 (mem_ownL.2 hk))
  · exact (Chg.refl _ _).setCell (.inl (by rw [hF]; simp)) _
end Go.Proofs.YtifjjcenmilohaaDoor
