/- The contracts of a trail's Begin and Set. Condition: fewer changes than 2 to the power 40 (Set). -/
import Derived.Test.YtifjjcenmilohaaDoorTrailB
import Derived.Deep.RegionLaw
import Derived.Deep.AppendLies
namespace Go.Proofs.YtifjjcenmilohaaDoor
open Go.RowKit

theorem begin_full (b : Nat) (F : List Nat) (T : TM) (w : World) (h : TrailAt w b F T) (hm : T.marks.length = 1000) :
    Calls Tryd.prog 32 #[.pointer (some ⟨b, 0, none⟩)] w fun e w' => e = .returned (.int .i64 7) ∧ w = w' := by
  have his := Lib.hid (is_any b F T w h)
  obtain ⟨gc, cc, vch, vm, h1, -, -, ho, -⟩ := h
  have c2 : w.cell? ⟨b, 2, none⟩ = some vm := cell_at 2 h1 rfl
  rw [hm] at ho
  clear h1 hm
  rcases owns_shape ho with ⟨rfl, hl⟩ | ⟨g, c, rfl, hl, hx⟩
  · omega
  · clear ho hl
    go_enter Tryd.func32, Tryd.ntmps32
    go_wp2_with fail
    refine his.out.mono ?_
    rintro e w' ⟨rfl, rfl⟩
    go_wp2_with fail
    go_ret
    exact ⟨rfl, rfl⟩

theorem mark_put {w w1 : World} {b : Nat} {F : List Nat} {T : TM} {gc cc : Nat} {vch vm : Value} {o : Obj} {gg cap : Nat} {m : Nat} (h : TrailAt w b F T)
    (hF : F = b :: gc :: (ownL vch ++ ownL vm)) (h1 : w.heap[b]? = some (.cells #[.slice (some ⟨gc, 0, none⟩) T.cells.length cc, vch, vm, .bool true] 64 (0, 0)))
    (hc : w.ownsRow 0 3 1 (.slice (some ⟨gc, 0, none⟩) T.cells.length cc) T.cells.length (ints T.cells)) (hch : w.ownsRow 0 68 2 vch T.ch.length (flat T.ch))
    (hgrow : (w.alloc o).drew.grownBy w1 vm.ownBlock)
    (hown : w1.ownsRow 0 3 1 (.slice (some ⟨gg, 0, none⟩) (T.marks.length + 1) cap) (T.marks.length + 1) (nats T.marks ++ [.int .i64 (m : Int)]))
    (hat : vm.ownBlock = some gg ∨ gg = w.heap.size + 1) :
    ∃ F', TrailAt (w1.setCell ⟨b, 2, none⟩ (.slice (some ⟨gg, 0, none⟩) (T.marks.length + 1) cap)) b F' { T with marks := T.marks ++ [m] } ∧
      (∀ k ∈ F', k ∈ F ∨ w.heap.size ≤ k) ∧ Chg (· ∈ F) w (w1.setCell ⟨b, 2, none⟩ (.slice (some ⟨gg, 0, none⟩) (T.marks.length + 1) cap)) := by
  have hlt := h.lt
  have hN : F.Nodup := by obtain ⟨_, _, _, _, _, _, _, _, _, hN⟩ := h; exact hN
  have hN' := hN
  rw [hF] at hN'
  simp only [List.nodup_cons, List.mem_cons, List.mem_append, not_or, List.nodup_append] at hN'
  obtain ⟨⟨hb1, hb2, hb3⟩, ⟨hg1, hg2⟩, hn3, hn4, hn5⟩ := hN'
  have hold : ∀ k, k ∈ F → k ∉ ownL vm → w1.heap[k]? = w.heap[k]? := fun k hk hv =>
    (hgrow.block k (by have := hlt k hk; simp; omega) (fun e => hv (mem_ownL.2 e.symm))).trans (heap_alloc_lt (hlt k hk))
  have hbF : b ∈ F := by rw [hF]; simp
  have hgF : gc ∈ F := by rw [hF]; simp
  have hggb : gg ≠ b := by
    rintro rfl
    rcases hat with e | e
    · exact hb3 (mem_ownL.2 e)
    · have := hlt _ hbF; omega
  have hset : ∀ k, k ≠ b → (w1.setCell ⟨b, 2, none⟩ (.slice (some ⟨gg, 0, none⟩) (T.marks.length + 1) cap)).heap[k]? = w1.heap[k]? := fun k hk => heap_set_ne 2 _ hk
  refine ⟨b :: gc :: (ownL vch ++ [gg]), ⟨gc, cc, vch, _, heap_set 2 _ ((hold b hbF hb3).trans h1), ?_, ?_, ?_, rfl, ?_⟩, ?_, ?_⟩
  · exact owns_of_heap hc fun k hk => by cases hk; exact (hset gc (Ne.symm hb1)).trans (hold gc hgF hg2)
  · exact owns_of_heap hch fun k hk => by
      have hk' := mem_ownL.2 hk
      have hkF : k ∈ F := by rw [hF]; simp [hk']
      exact (hset k (by rintro rfl; exact hb2 hk')).trans (hold k hkF (fun hv => hn5 k hk' k hv rfl))
  · simp only [List.length_append, List.length_singleton, nats_snoc]
    exact owns_of_heap hown fun k hk => by cases hk; exact hset gg hggb
  · simp only [List.nodup_cons, List.mem_cons, List.mem_append, List.nodup_append, not_or]
    have hgn : ∀ k ∈ F, k ∉ ownL vm → k ≠ gg := by
      rintro k hk hv rfl
      rcases hat with e | e
      · exact hv (mem_ownL.2 e)
      · have := hlt _ hk; omega
    refine ⟨⟨hb1, hb2, Ne.symm hggb, by simp⟩, ⟨hg1, hgn gc hgF hg2, by simp⟩, hn3, ⟨by simp, List.nodup_nil⟩, ?_⟩
    intro a ha c hc' e
    subst e
    simp only [List.not_mem_nil, or_false] at hc'
    exact hgn a (by rw [hF]; simp [ha]) (fun hv => hn5 a ha a hv rfl) hc'
  · intro k hk
    simp only [List.mem_cons, List.mem_append, List.not_mem_nil, or_false] at hk
    rcases hk with rfl | rfl | hk | rfl
    · exact .inl hbF
    · exact .inl hgF
    · exact .inl (by rw [hF]; simp [hk])
    · rcases hat with e | e
      · exact .inl (by rw [hF]; simp [mem_ownL.2 e])
      · exact .inr (by omega)
  · refine Chg.setCell ?_ (.inl hbF) _
    have hg : Chg (· ∈ F) (w.alloc o).drew w1 := chg_grown hgrow fun k hk => by rw [hF]; simp [mem_ownL.2 hk]
    exact ((Chg.refl _ w).alloc o).trans hg.undrew

theorem begin_ok (b : Nat) (F : List Nat) (T : TM) (w : World) (h : TrailAt w b F T) (hm : T.marks.length < 1000) (hch9 : T.ch.length ≤ 1099511627776) :
    Calls Tryd.prog 32 #[.pointer (some ⟨b, 0, none⟩)] w (TEnds b F (.int .i64 0) { T with marks := T.marks ++ [T.ch.length] } w) := by
  have his := Lib.hid (is_any b F T w h)
  have h0 := Lib.hid h
  obtain ⟨i0, hi, hz0, hz1, hz2⟩ := info_parts infoInt
  obtain ⟨gc, cc, vch, vm, h1, hc, hch, ho, hF, hN⟩ := h
  have f2 := free_at 2 h1
  have c1 : w.cell? ⟨b, 1, none⟩ = some vch := cell_at 1 h1 rfl
  have c2 : w.cell? ⟨b, 2, none⟩ = some vm := cell_at 2 h1 rfl
  have hlen : ∃ ac kc, vch = .slice ac T.ch.length kc := by
    rcases owns_shape hch with ⟨rfl, hl⟩ | ⟨g, c, rfl, _⟩
    · exact ⟨none, 0, by rw [hl]⟩
    · exact ⟨_, _, rfl⟩
  have hlm : ∃ am km, vm = .slice am T.marks.length km := by
    rcases owns_shape ho with ⟨rfl, hl⟩ | ⟨g, c, rfl, _⟩
    · exact ⟨none, 0, by rw [hl]⟩
    · exact ⟨_, _, rfl⟩
  obtain ⟨ac, kc, rfl⟩ := hlen
  obtain ⟨am, km, rfl⟩ := hlm
  generalize hlc : T.ch.length = lc at *
  generalize hlm : T.marks.length = lm at *
  have hbw := lt_of_block h1
  have hvb : ¬ (Value.slice am lm km).ownBlock = some b := by
    intro e
    rw [hF] at hN
    simp [mem_ownL.2 e] at hN
  have HVB := Lib.hid hvb
  have H1 := Lib.hid h1
  have HC := Lib.hid hc
  have HCH := Lib.hid hch
  have HO := Lib.hid ho
  have HF := Lib.hid hF
  have HN := Lib.hid hN
  have HLC := Lib.hid hlc
  have HLM := Lib.hid hlm
  have hd : ((lm : Int) == 1000) = false := by simp; omega
  clear h1 hc hch hF hN hlc hlm ho hvb
  go_enter Tryd.func32, Tryd.ntmps32
  go_wp2_with fail
  refine his.out.mono ?_
  rintro e w' ⟨rfl, rfl⟩
  go_wp2_with fail
  go_region_law ((refine step_append_lies _ (by rfl) _ _ _ (by rfl) 0 3 i0 _ 1 8 Tryd.underlying22 hi hz0 hz1 hz2 rfl (by decide) (.slice am lm km) lm (nats T.marks) (by rfl) ((HO.out.alloc _).drew) ⟨w.heap.size, 0, none⟩ 1 1 [.int .i64 lc] (by rfl) (by rfl) (World.news_of_block (cs := #[.int .i64 lc]) (t := 3) (fr := (0, 0)) (heap_alloc_new w _)) (by simp [Value.oneCell']) (by omega) (by unfold maxLen; omega) (by omega) (Nat.zero_le _) (w.heap.size + 1) (by simp) ?_; intro gg cap w1 hown1 hgrow hat hlt
                  have kb := (hgrow.block b (by simp; omega) (fun e => HVB.out e.symm)).trans ((heap_alloc_lt (w := w) (o := .cells #[.int .i64 lc] 3) hbw).trans H1.out)
                  have k2 := cell_at 2 kb rfl
                  have g2 := free_at 2 kb
                  have KB := Lib.hid kb
                  clear kb))
  all_goals
    go_wp2_with fail
    go_ret
    refine ⟨rfl, ?_⟩
    obtain rfl := HLC.out
    obtain rfl := HLM.out
    exact mark_put h0.out HF.out H1.out HC.out HCH.out hgrow hown1 hat
end Go.Proofs.YtifjjcenmilohaaDoor
