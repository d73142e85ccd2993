/- The contract of a trail's Set behind a beginning. Condition: at most 2 to the power 40 changes. -/
import Derived.Test.YtifjjcenmilohaaDoorTrailD
namespace Go.Proofs.YtifjjcenmilohaaDoor
open Go.RowKit

theorem change_put {w w1 : World} {b : Nat} {F : List Nat} {T : TM} {gc cc : Nat} {vch vm : Value} {o : Obj} {gg cap c : Nat} {v x : Int} (h : TrailAt w b F T)
    (hx : x = T.cells.getD c 0) (hm : T.marks.length ≠ 0)
    (hF : F = b :: gc :: (ownL vch ++ ownL vm)) (h1 : w.heap[b]? = some (.cells #[.slice (some ⟨gc, 0, none⟩) T.cells.length cc, vch, vm, .bool true] 64 (0, 0)))
    (hc : w.ownsRow 0 3 1 (.slice (some ⟨gc, 0, none⟩) T.cells.length cc) T.cells.length (ints T.cells)) (hmk : w.ownsRow 0 3 1 vm T.marks.length (nats T.marks))
    (hgrow : (w.alloc o).drew.grownBy w1 vch.ownBlock)
    (hown : w1.ownsRow 0 68 2 (.slice (some ⟨gg, 0, none⟩) (T.ch.length + 1) cap) (T.ch.length + 1) (flat T.ch ++ [.int .i64 (c : Int), .int .i64 x]))
    (hat : vch.ownBlock = some gg ∨ gg = w.heap.size + 1) :
    ∃ F', TrailAt ((w1.setCell ⟨b, 1, none⟩ (.slice (some ⟨gg, 0, none⟩) (T.ch.length + 1) cap)).setCell ⟨gc, c, none⟩ (.int .i64 v)) b F' (T.set c v) ∧
      (∀ k ∈ F', k ∈ F ∨ w.heap.size ≤ k) ∧ Chg (· ∈ F) w ((w1.setCell ⟨b, 1, none⟩ (.slice (some ⟨gg, 0, none⟩) (T.ch.length + 1) cap)).setCell ⟨gc, c, none⟩ (.int .i64 v)) := by
  have hlt := h.lt
  have hT : T.set c v = { T with cells := T.cells.set c v, ch := T.ch ++ [(c, x)] } := by simp [TM.set, hm, hx]
  have hN : F.Nodup := by obtain ⟨_, _, _, _, _, _, _, _, _, hN⟩ := h; exact hN
  have hN' := hN
  rw [hF] at hN'
  simp only [List.nodup_cons, List.mem_cons, List.mem_append, not_or, List.nodup_append] at hN'
  obtain ⟨⟨hb1, hb2, hb3⟩, ⟨hg1, hg2⟩, hn3, hn4, hn5⟩ := hN'
  have hold : ∀ k, k ∈ F → k ∉ ownL vch → w1.heap[k]? = w.heap[k]? := fun k hk hv =>
    (hgrow.block k (by have := hlt k hk; simp; omega) (fun e => hv (mem_ownL.2 e.symm))).trans (heap_alloc_lt (hlt k hk))
  have hbF : b ∈ F := by rw [hF]; simp
  have hgF : gc ∈ F := by rw [hF]; simp
  have hgn : ∀ k ∈ F, k ∉ ownL vch → k ≠ gg := by
    rintro k hk hv rfl
    rcases hat with e | e
    · exact hv (mem_ownL.2 e)
    · have := hlt _ hk; omega
  have hb' := hgn b hbF hb2
  have hg' := hgn gc hgF hg1
  generalize hS : (w1.setCell ⟨b, 1, none⟩ (.slice (some ⟨gg, 0, none⟩) (T.ch.length + 1) cap)) = w2
  have hset2 : ∀ k, k ≠ b → w2.heap[k]? = w1.heap[k]? := fun k hk => by rw [← hS]; exact heap_set_ne 1 _ hk
  have hset : ∀ k, k ≠ gc → (w2.setCell ⟨gc, c, none⟩ (.int .i64 v)).heap[k]? = w2.heap[k]? := fun k hk => heap_set_ne c _ hk
  have hb2w : w2.heap[b]? = some (.cells #[.slice (some ⟨gc, 0, none⟩) T.cells.length cc, .slice (some ⟨gg, 0, none⟩) (T.ch.length + 1) cap, vm, .bool true] 64 (0, 0)) := by
    rw [← hS]; exact heap_set 1 _ ((hold b hbF hb2).trans h1)
  have hc2 : w2.ownsRow 0 3 1 (.slice (some ⟨gc, 0, none⟩) T.cells.length cc) T.cells.length (ints T.cells) :=
    owns_of_heap hc fun k hk => by cases hk; exact (hset2 gc (Ne.symm hb1)).trans (hold gc hgF hg1)
  rw [hT]
  refine ⟨b :: gc :: ([gg] ++ ownL vm), ⟨gc, cc, .slice (some ⟨gg, 0, none⟩) (T.ch.length + 1) cap, vm, (hset b hb1).trans ?_, ?_, ?_, ?_, rfl, ?_⟩, ?_, ?_⟩
  · simp only [List.length_set]; exact hb2w
  · simp only [List.length_set, ints_set]; exact (hc2.stored c (.int .i64 v)).1
  · rw [flat_append]
    simp only [List.length_append, List.length_singleton]
    exact owns_of_heap hown fun k hk => by cases hk; exact (hset gg (Ne.symm hg')).trans (hset2 gg (Ne.symm hb'))
  · exact owns_of_heap hmk fun k hk => by
      have hk' := mem_ownL.2 hk
      have hkF : k ∈ F := by rw [hF]; simp [hk']
      exact (hset k (by rintro rfl; exact hg2 hk')).trans ((hset2 k (by rintro rfl; exact hb3 hk')).trans (hold k hkF (fun hv => hn5 k hv k hk' rfl)))
  · simp only [List.nodup_cons, List.mem_cons, List.mem_append, List.nodup_append, not_or]
    refine ⟨⟨hb1, ⟨hb', by simp⟩, hb3⟩, ⟨⟨hg', by simp⟩, hg2⟩, ⟨by simp, List.nodup_nil⟩, hn4, ?_⟩
    intro a ha k hk e
    simp only [List.not_mem_nil, or_false] at ha
    subst e ha
    exact hgn a (by rw [hF]; simp [hk]) (fun hv => hn5 a hv a hk rfl) rfl
  · intro k hk
    simp only [List.mem_cons, List.mem_append, List.not_mem_nil, or_false] at hk
    rcases hk with rfl | rfl | rfl | hk
    · exact .inl hbF
    · exact .inl hgF
    · rcases hat with e | e
      · exact .inl (by rw [hF]; simp [mem_ownL.2 e])
      · exact .inr (by omega)
    · exact .inl (by rw [hF]; simp [hk])
  · refine Chg.setCell ?_ (.inl hgF) _
    rw [← hS]
    refine Chg.setCell ?_ (.inl hbF) _
    have hg : Chg (· ∈ F) (w.alloc o).drew w1 := chg_grown hgrow fun k hk => by rw [hF]; simp [mem_ownL.2 hk]
    exact ((Chg.refl _ w).alloc o).trans hg.undrew

set_option maxHeartbeats 1000000 in
theorem set_deep (b : Nat) (F : List Nat) (T : TM) (c : Nat) (v : Int) (w : World) (h : TrailAt w b F T) (hc : c < T.cells.length) (hm : T.marks.length ≠ 0) (hch9 : T.ch.length ≤ 1099511627776) :
    Calls Tryd.prog 37 #[.pointer (some ⟨b, 0, none⟩), .int .i64 c, .int .i64 v] w (TEnds b F (.int .i64 0) (T.set c v) w) := by
  have his := Lib.hid (is_any b F T w h)
  have hha := has_any b F T c w h
  rw [TM.has_yes (by omega) (by omega)] at hha
  have hha' := Lib.hid hha
  have H0 := Lib.hid h
  obtain ⟨i0, hi, hz0, hz1, hz2⟩ := info_parts infoChange
  obtain ⟨gc, cc, vch, vm, h1, hcs, hch, ho, hF, hN⟩ := h
  have c0 : w.cell? ⟨b, 0, none⟩ = some (.slice (some ⟨gc, 0, none⟩) T.cells.length cc) := cell_at 0 h1 rfl
  have c1 : w.cell? ⟨b, 1, none⟩ = some vch := cell_at 1 h1 rfl
  have c2 : w.cell? ⟨b, 2, none⟩ = some vm := cell_at 2 h1 rfl
  have cx : w.cell? ⟨gc, c, none⟩ = some (.int .i64 (T.cells.getD c 0)) := (hcs.cellAt c (by omega)).trans (ints_nth _ hc)
  have fx := hcs.frozenAt c
  have hcap := (owns_shape hcs).resolve_left (by rintro ⟨h, _⟩; cases h)
  obtain ⟨g', cap', hv, hle, hmx⟩ := hcap
  cases hv
  unfold maxLen at hmx
  have hbw := lt_of_block h1
  have hgw := owns_lt hcs gc rfl
  have hlen : ∃ ac kc, vch = .slice ac T.ch.length kc := by
    rcases owns_shape hch with ⟨rfl, hl⟩ | ⟨g, c, rfl, _⟩
    · exact ⟨none, 0, by rw [hl]⟩
    · exact ⟨_, _, rfl⟩
  have hlm : ∃ am km, vm = .slice am T.marks.length km := by
    rcases owns_shape ho with ⟨rfl, hl⟩ | ⟨g, c, rfl, _⟩
    · exact ⟨none, 0, by rw [hl]⟩
    · exact ⟨_, _, rfl⟩
  obtain ⟨ac, kc, rfl⟩ := hlen
  obtain ⟨am, km, rfl⟩ := hlm
  have hvb : ¬ (Value.slice ac T.ch.length kc).ownBlock = some b := by
    intro e
    rw [hF] at hN
    simp [mem_ownL.2 e] at hN
  have hvg : ¬ (Value.slice ac T.ch.length kc).ownBlock = some gc := by
    intro e
    rw [hF] at hN
    simp [mem_ownL.2 e] at hN
  have hbg : b ≠ gc := by
    rintro rfl
    rw [hF] at hN
    simp at hN
  have hgb : ¬ gc = b := fun e => hbg e.symm
  have H1 := Lib.hid h1
  have HCS := Lib.hid hcs
  have HCH := Lib.hid hch
  have HO := Lib.hid ho
  have HF := Lib.hid hF
  have HVB := Lib.hid hvb
  have HVG := Lib.hid hvg
  have HM := Lib.hid hm
  have hd : decide ((0 : Int) < (T.marks.length : Int)) = true := by simp; omega
  have hpos : 0 < T.marks.length := by omega
  clear h1 hch ho hF hN hm hha hvb hvg
  generalize hxx : T.cells.getD c 0 = x at *
  have HX := Lib.hid hxx
  clear hxx
  generalize hln : T.cells.length = ln at *
  have HLN := Lib.hid hln
  generalize hlc : T.ch.length = lc at *
  have HLC := Lib.hid hlc
  generalize hlk : T.marks.length = lk at *
  have HLK := Lib.hid hlk
  clear hln hlc hlk hcs
  go_enter Tryd.func37, Tryd.ntmps37
  go_wp2_with fail
  refine his.out.mono ?_
  rintro e w' ⟨rfl, rfl⟩
  go_wp2_with fail
  refine hha'.out.mono ?_
  rintro e w' ⟨rfl, rfl⟩
  go_wp2_with fail
  go_region_law ((refine step_append_lies _ (by rfl) _ _ _ (by rfl) 0 68 i0 _ 2 16 Tryd.underlying62 hi hz0 hz1 hz2 rfl (by decide) (.slice ac lc kc) lc (flat T.ch) (by rfl) ((HCH.out.alloc _).drew) ⟨w.heap.size, 0, none⟩ 1 1 [.int .i64 c, .int .i64 x] (by rfl) (by rfl) (World.news_of_block (cs := #[.int .i64 c, .int .i64 x]) (t := 68) (fr := (0, 0)) (heap_alloc_new w _)) (by simp [Value.oneCell']) (by omega) (by unfold maxLen; omega) (by omega) (Nat.zero_le _) (w.heap.size + 1) (by simp) ?_; intro gg cap w1 hown1 hgrow hat hlt
                  have kb := (hgrow.block b (by simp; omega) (fun e => HVB.out e.symm)).trans ((heap_alloc_lt (w := w) (o := .cells #[.int .i64 c, .int .i64 x] 68) hbw).trans H1.out)
                  have k1 := cell_at 1 kb rfl
                  have g1 := free_at 1 kb
                  have k0 : w1.cell? ⟨b, 0, none⟩ = some (.slice (some ⟨gc, 0, none⟩) ln cc) := cell_at 0 kb rfl
                  have kg := (hgrow.block gc (by simp; omega) (fun e => HVG.out e.symm)).trans (heap_alloc_lt (w := w) (o := .cells #[.int .i64 c, .int .i64 x] 68) hgw)
                  have kx := (World.cell?_of_block (a := ⟨gc, c, none⟩) kg).trans cx
                  have gx := (World.frozen?_of_block (a := ⟨gc, c, none⟩) kg).trans fx
                  clear kb kg))
  all_goals
    go_wp2_with fail
    go_ret
    refine ⟨rfl, ?_⟩
    obtain rfl := HLC.out
    obtain rfl := HLN.out
    obtain rfl := HLK.out
    exact change_put H0.out HX.out.symm HM.out HF.out H1.out HCS.out HO.out hgrow hown1 hat
end Go.Proofs.YtifjjcenmilohaaDoor
