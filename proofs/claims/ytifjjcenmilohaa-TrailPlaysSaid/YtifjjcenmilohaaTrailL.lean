/- The contracts of the document's trail: End and Begin. Conditions: at most 1000 cells, fewer than 1000 levels at Begin. -/
import Derived.Test.YtifjjcenmilohaaTrailK
namespace Go.Proofs.Ytifjjcenmilohaa
open Go.RowKit

theorem ref_asm {w w2 : World} {r g c n gt kt : Nat} {now : List Int} {hs : List Kept}
    (h1 : w2.heap[r]? = some (.cells #[.slice (some ⟨g, 0, none⟩) n c, .slice (some ⟨gt, 0, none⟩) hs.length kt] 31 (0, 0))) (hne : ∀ k, k ≠ r → w2.heap[k]? = w.heap[k]?)
    (hn : now.length = n) (h2 : w.ownsRow 0 3 1 (.slice (some ⟨g, 0, none⟩) n c) n (ints now)) (h3 : w.ownsRow 0 28 1 (.slice (some ⟨gt, 0, none⟩) hs.length kt) hs.length (hs.map (head n)))
    (h4 : ∀ h ∈ hs, h.2.2.length = n ∧ w.ownsRow 0 3 1 (head n h) n (ints h.2.2)) (hN : (r :: g :: ([gt] ++ hs.map (·.1))).Nodup) : RefAt w2 r (r :: g :: ([gt] ++ hs.map (·.1))) n now hs := by
  have hN' := hN
  simp only [List.nodup_cons, List.mem_cons, List.mem_append, not_or, List.not_mem_nil, or_false] at hN'
  obtain ⟨⟨r1, r2, r3⟩, -⟩ := hN'
  refine ⟨g, c, .slice (some ⟨gt, 0, none⟩) hs.length kt, h1, hn, owns_of_heap h2 fun k hk => by cases hk; exact hne g (Ne.symm r1), owns_of_heap h3 fun k hk => by cases hk; exact hne gt (Ne.symm r2),
    fun x hx => ⟨(h4 x hx).1, owns_of_heap (h4 x hx).2 fun k hk => ?_⟩, rfl, hN⟩
  cases hk
  exact hne x.1 (by rintro e; exact r3 (List.mem_map.2 ⟨x, hx, e⟩))

theorem ref_end (r : Nat) (F : List Nat) (n : Nat) (now : List Int) (hs : List Kept) (h : Kept) (u : Bool) (w : World) (hr : RefAt w r F n now (hs ++ [h])) (hl9 : hs.length ≤ 1000) :
    Calls Try.prog 13 #[.pointer (some ⟨r, 0, none⟩), .bool u] w (REnds r F n (.int .i64 0) (if u then h.2.2 else now) hs w) := by
  obtain ⟨gn, cn, vt, h1, hn, h2, h3, h4, hF, hN⟩ := hr
  have c1 : w.cell? ⟨r, 1, none⟩ = some vt := cell_at 1 h1 rfl
  have c0 : w.cell? ⟨r, 0, none⟩ = some (.slice (some ⟨gn, 0, none⟩) n cn) := cell_at 0 h1 rfl
  have f0 := free_at 0 h1
  have f1 := free_at 1 h1
  have hlen : (hs ++ [h]).length = hs.length + 1 := by simp
  rw [hlen] at h3
  rcases owns_shape h3 with ⟨rfl, hl⟩ | ⟨gt, kt, rfl, hle, hmx⟩
  · omega
  have hmap : (hs ++ [h]).map (head n) = hs.map (head n) ++ [head n h] := by simp
  rw [hmap] at h3
  have ct : w.cell? ⟨gt, hs.length, none⟩ = some (head n h) := by
    rw [h3.cellAt hs.length (by omega)]
    rw [List.getElem?_append_right (by simp)]
    simp
  have hpop := Lib.hid (ownsRow_pop (by simp) h3)
  unfold maxLen at hmx
  have H1 := Lib.hid h1
  have HL := Lib.hid hn
  have H2 := Lib.hid h2
  have H4 := Lib.hid h4
  have HF := Lib.hid hF
  have HN := Lib.hid hN
  have hrw := lt_of_block h1
  clear h1 hn h2 h3 h4 hF hN hlen hmap
  obtain ⟨hg, hc, hv⟩ := h
  unfold head at ct
  generalize hm : hs.length = m at *
  have HM := Lib.hid hm
  clear hm
  have hN := HN.out
  rw [HF.out] at hN
  simp only [List.nodup_cons, List.mem_cons, List.mem_append, not_or, List.nodup_append, ownL_some, List.map_append, List.map_cons, List.map_nil, List.not_mem_nil, or_false, not_false_eq_true, true_and, and_true, List.nodup_nil, List.mem_map] at hN
  have HND := Lib.hid hN
  clear hN
  cases u with
  | true =>
    go_enter Try.func13, Try.ntmps13
    go_wp2
    go_ret
    obtain rfl := HM.out
    obtain ⟨⟨r1, r2, r3, r4⟩, ⟨g1, g2, g3⟩, ⟨hn1, hn2⟩, hn4⟩ := HND.out
    have hF := HF.out
    refine ⟨rfl, r :: hg :: ([gt] ++ hs.map (·.1)), ref_asm (heap_set 1 _ (heap_set 0 _ H1.out)) (fun k hk => (heap_set_ne 1 _ hk).trans (heap_set_ne 0 _ hk)) (H4.out (hg, hc, hv) (by simp)).1
      (H4.out (hg, hc, hv) (by simp)).2 hpop.out (fun x hx => H4.out x (by simp [hx])) ?_, ?_, ?_⟩
    · simp only [List.nodup_cons, List.mem_cons, List.mem_append, not_or, List.nodup_append, List.not_mem_nil, or_false, not_false_eq_true, List.nodup_nil, List.mem_map]
      refine ⟨⟨r4, r2, r3⟩, ⟨Ne.symm (hn4 gt rfl hg (.inr rfl)), fun hx => hn2 hg hx hg rfl rfl⟩, ⟨trivial, trivial⟩, hn1, ?_⟩
      intro a ha b hb
      exact hn4 a ha b (.inl hb)
    · intro k hk
      left
      rw [hF]
      simp only [ownL_some, List.mem_cons, List.mem_append, List.map_append, List.map_cons, List.map_nil, List.not_mem_nil, or_false] at hk ⊢
      rcases hk with h | h | h | h
      · exact .inl h
      · exact .inr (.inr (.inr (.inr h)))
      · exact .inr (.inr (.inl h))
      · exact .inr (.inr (.inr (.inl h)))
    · exact ((Chg.refl _ _).setCell (p := ⟨r, 0, none⟩) (.inl (by rw [hF]; simp)) _).setCell (p := ⟨r, 1, none⟩) (.inl (by rw [hF]; simp)) _
  | false =>
    go_enter Try.func13, Try.ntmps13
    go_wp2
    go_ret
    obtain rfl := HM.out
    obtain ⟨⟨r1, r2, r3, r4⟩, ⟨g1, g2, g3⟩, ⟨hn1, hn2⟩, hn4⟩ := HND.out
    have hF := HF.out
    refine ⟨rfl, r :: gn :: ([gt] ++ hs.map (·.1)), ref_asm (heap_set 1 _ H1.out) (fun k hk => heap_set_ne 1 _ hk) HL.out
      H2.out hpop.out (fun x hx => H4.out x (by simp [hx])) ?_, ?_, ?_⟩
    · simp only [List.nodup_cons, List.mem_cons, List.mem_append, not_or, List.nodup_append, List.not_mem_nil, or_false, not_false_eq_true, List.nodup_nil, List.mem_map]
      refine ⟨⟨r1, r2, r3⟩, ⟨g1, g2⟩, ⟨trivial, trivial⟩, hn1, ?_⟩
      intro a ha b hb
      exact hn4 a ha b (.inl hb)
    · intro k hk
      left
      rw [hF]
      simp only [ownL_some, List.mem_cons, List.mem_append, List.map_append, List.map_cons, List.map_nil, List.not_mem_nil, or_false] at hk ⊢
      rcases hk with h | h | h | h
      · exact .inl h
      · exact .inr (.inl h)
      · exact .inr (.inr (.inl h))
      · exact .inr (.inr (.inr (.inl h)))
    · exact (Chg.refl _ _).setCell (p := ⟨r, 1, none⟩) (.inl (by rw [hF]; simp)) _

theorem infoInts : (Try.prog.info? 28).map (fun i => (i.zero, i.size, i.bytes)) = some (some (.slice none 0 0), 1, 24) := by kernel_rfl

theorem ref_begin_full (r : Nat) (F : List Nat) (n : Nat) (now : List Int) (hs : List Kept) (w : World) (h : RefAt w r F n now hs) (hl : hs.length = 1000) :
    Calls Try.prog 11 #[.pointer (some ⟨r, 0, none⟩)] w (REnds r F n (.int .i64 7) now hs w) := by
  have H0 := Lib.hid h
  obtain ⟨gn, cn, vt, h1, -, -, h3, -⟩ := h
  have c1 : w.cell? ⟨r, 1, none⟩ = some vt := cell_at 1 h1 rfl
  obtain ⟨a, c, rfl⟩ := slice_len h3
  rw [hl] at c1
  clear h1 h3 hl
  go_enter Try.func11, Try.ntmps11
  go_wp2
  go_ret
  exact same_rends H0.out

theorem begin_put {w w1 w2 : World} {r : Nat} {F : List Nat} {n : Nat} {now : List Int} {hs : List Kept} {gn cn : Nat} {vt : Value} {o : Obj} {gg cap g1 k1 : Nat} (h : RefAt w r F n now hs)
    (hF : F = r :: gn :: (ownL vt ++ hs.map (·.1))) (h1 : w.heap[r]? = some (.cells #[.slice (some ⟨gn, 0, none⟩) n cn, vt] 31 (0, 0)))
    (h2 : w.ownsRow 0 3 1 (.slice (some ⟨gn, 0, none⟩) n cn) n (ints now))
    (h4 : ∀ h ∈ hs, h.2.2.length = n ∧ w.ownsRow 0 3 1 (head n h) n (ints h.2.2))
    (hB : Below w.drew.heap.size w.drew w1) (hO : w1.ownsRow w.drew.heap.size 3 1 (.slice (some ⟨g1, 0, none⟩) n k1) n (ints now)) (hn : now.length = n)
    (hgrow : (w1.alloc o).grownBy w2 vt.ownBlock)
    (hown : w2.ownsRow 0 28 1 (.slice (some ⟨gg, 0, none⟩) (hs.length + 1) cap) (hs.length + 1) (hs.map (head n) ++ [.slice (some ⟨g1, 0, none⟩) n k1]))
    (hat : vt.ownBlock = some gg ∨ gg = w1.heap.size + 1) :
    ∃ k : Kept, k.2.2 = now ∧ REnds r F n (.int .i64 0) now (hs ++ [k]) w (.returned (.int .i64 0)) (w2.setCell ⟨r, 1, none⟩ (.slice (some ⟨gg, 0, none⟩) (hs.length + 1) cap)) := by
  have hlt := h.lt
  have hN : F.Nodup := by obtain ⟨_, _, _, _, _, _, _, _, _, hN⟩ := h; exact hN
  have hs1 : w.heap.size ≤ w1.heap.size := hB.size
  obtain ⟨hg1a, hg1b⟩ := World.ownsRow.lt hO g1 rfl
  have hg1a' : w.heap.size ≤ g1 := hg1a
  have hold1 : ∀ k, k < w.heap.size → w1.heap[k]? = w.heap[k]? := fun k hk => hB.block k hk
  have hold : ∀ k, k < w1.heap.size → k ∉ ownL vt → w2.heap[k]? = w1.heap[k]? := fun k hk hv =>
    (hgrow.block k (by simp; omega) (fun e => hv (mem_ownL.2 e.symm))).trans (heap_alloc_lt hk)
  have hN' := hN
  rw [hF] at hN'
  simp only [List.nodup_cons, List.mem_cons, List.mem_append, not_or, List.nodup_append, List.mem_map] at hN'
  obtain ⟨⟨r1, r2, r3⟩, ⟨q1, q2⟩, n1, n2, n3⟩ := hN'
  have hrF : r ∈ F := by rw [hF]; simp
  have hgF : gn ∈ F := by rw [hF]; simp
  have hhF : ∀ x ∈ hs, x.1 ∈ F := fun x hx => by
    rw [hF]; simp only [List.mem_cons, List.mem_append, List.mem_map]; exact .inr (.inr (.inr ⟨x, hx, rfl⟩))
  have hgg : ∀ k, k < w1.heap.size → k ∉ ownL vt → k ≠ gg := by
    rintro k hk hv rfl
    rcases hat with e | e
    · exact hv (mem_ownL.2 e)
    · omega
  have hg1v : g1 ∉ ownL vt := fun hv => by
    have := hlt g1 (by rw [hF]; simp [hv])
    omega
  have hset : ∀ k, k ≠ r → (w2.setCell ⟨r, 1, none⟩ (.slice (some ⟨gg, 0, none⟩) (hs.length + 1) cap)).heap[k]? = w2.heap[k]? := fun k hk => heap_set_ne 1 _ hk
  have hgr : g1 ≠ r := by have := hlt r hrF; omega
  have hxv : ∀ x ∈ hs, x.1 ∉ ownL vt := fun x hx hv => n3 x.1 hv x.1 ⟨x, hx, rfl⟩ rfl
  refine ⟨(g1, k1, now), rfl, rfl, r :: gn :: ([gg] ++ (hs ++ [(g1, k1, now)]).map (·.1)), ⟨gn, cn, .slice (some ⟨gg, 0, none⟩) (hs.length + 1) cap, ?_, hn, ?_, ?_, ?_, rfl, ?_⟩, ?_, ?_⟩
  · exact heap_set 1 _ ((hold r (by have := hlt r hrF; omega) r2).trans ((hold1 r (hlt r hrF)).trans h1))
  · exact owns_of_heap h2 fun k hk => by
      cases hk
      exact (hset gn (Ne.symm r1)).trans ((hold gn (by have := hlt gn hgF; omega) q1).trans (hold1 gn (hlt gn hgF)))
  · rw [List.map_append, List.length_append]
    exact owns_of_heap hown fun k hk => by
      cases hk
      exact hset gg (Ne.symm (hgg r (by have := hlt r hrF; omega) r2))
  · intro x hx
    simp only [List.mem_append, List.mem_singleton] at hx
    rcases hx with hx | rfl
    · refine ⟨(h4 x hx).1, owns_of_heap (h4 x hx).2 fun k hk => ?_⟩
      cases hk
      have hl := hlt x.1 (hhF x hx)
      exact (hset x.1 (by rintro e; exact r3 ⟨x, hx, e⟩)).trans ((hold x.1 (by omega) (hxv x hx)).trans (hold1 x.1 hl))
    · exact ⟨hn, owns_zero (owns_of_heap hO fun k hk => by cases hk; exact (hset g1 hgr).trans (hold g1 hg1b hg1v))⟩
  · simp only [List.nodup_cons, List.mem_cons, List.mem_append, not_or, List.nodup_append, List.map_append, List.map_cons, List.map_nil, List.not_mem_nil, or_false, not_false_eq_true, List.nodup_nil, List.mem_map]
    refine ⟨⟨r1, hgg r (by have := hlt r hrF; omega) r2, r3, Ne.symm hgr⟩, ⟨hgg gn (by have := hlt gn hgF; omega) q1, q2, by have := hlt gn hgF; omega⟩, ⟨trivial, trivial⟩, ⟨n2, ⟨trivial, trivial⟩, ?_⟩, ?_⟩
    · rintro y ⟨x, hx, rfl⟩ z rfl e
      have := hlt x.1 (hhF x hx)
      omega
    · rintro y rfl z (⟨x, hx, rfl⟩ | rfl) e
      · exact hgg x.1 (by have := hlt x.1 (hhF x hx); omega) (hxv x hx) e.symm
      · exact hgg z hg1b hg1v e.symm
  · intro k hk
    simp only [List.mem_cons, List.mem_append, List.map_append, List.map_cons, List.map_nil, List.not_mem_nil, or_false, List.mem_map] at hk
    rcases hk with rfl | rfl | rfl | ⟨x, hx, rfl⟩ | rfl
    · exact .inl hrF
    · exact .inl hgF
    · rcases hat with e | e
      · exact .inl (by rw [hF]; simp [mem_ownL.2 e])
      · exact .inr (by omega)
    · exact .inl (hhF x hx)
    · exact .inr hg1a'
  · refine Chg.setCell (p := ⟨r, 1, none⟩) ?_ (.inl hrF) _
    have hc1 : Chg (· ∈ F) w w1 := ⟨hB.os, hB.tape, hB.output, hs1, fun k hk _ => hold1 k hk⟩
    have hg : Chg (· ∈ F) (w1.alloc o) w2 := chg_grown hgrow fun k hk => by rw [hF]; simp [mem_ownL.2 hk]
    exact (hc1.alloc o).trans hg

set_option maxHeartbeats 1000000 in
theorem ref_begin (r : Nat) (F : List Nat) (n : Nat) (now : List Int) (hs : List Kept) (w : World) (h : RefAt w r F n now hs) (hl : hs.length < 1000) (hn9 : n ≤ 1000) :
    Calls Try.prog 11 #[.pointer (some ⟨r, 0, none⟩)] w fun e w' => ∃ k : Kept, k.2.2 = now ∧ REnds r F n (.int .i64 0) now (hs ++ [k]) w e w' := by
  have H0 := Lib.hid h
  obtain ⟨i0, hi, hz0, hz1, hz2⟩ := info_parts infoInts
  obtain ⟨gn, cn, vt, h1, hn, h2, h3, h4, hF, hN⟩ := h
  have c1 : w.cell? ⟨r, 1, none⟩ = some vt := cell_at 1 h1 rfl
  have c0 : w.cell? ⟨r, 0, none⟩ = some (.slice (some ⟨gn, 0, none⟩) n cn) := cell_at 0 h1 rfl
  obtain ⟨a, c, rfl⟩ := slice_len h3
  have hints := Lib.hid (ints_any _ _ _ _ w.drew (show Src w.drew _ _ _ _ _ from src_of_owns h2) (by omega))
  have hvr : ¬ (Value.slice a hs.length c).ownBlock = some r := by
    intro e
    rw [hF] at hN
    simp [mem_ownL.2 e] at hN
  have hrw := lt_of_block h1
  have H1 := Lib.hid h1
  have HL := Lib.hid hn
  have H2 := Lib.hid h2
  have H3 := Lib.hid h3
  have H4 := Lib.hid h4
  have HF := Lib.hid hF
  have HVR := Lib.hid hvr
  clear h1 hn h2 h3 h4 hF hN hvr
  generalize hm : hs.length = m at *
  have HM := Lib.hid hm
  clear hm
  have hd : ((m : Int) == 1000) = false := by simp; omega
  go_enter Try.func11, Try.ntmps11
  go_wp2_with fail
  go_region_law (first
    | (refine step_append_lies _ (by rfl) _ _ _ (by rfl) 0 28 i0 _ 1 24 Try.underlying29 hi hz0 hz1 hz2 rfl (by decide) (.slice a m c) m (hs.map (head n)) (by rfl) (HO3.out.alloc _) ⟨w1.heap.size, 0, none⟩ 1 1 [.slice (some ⟨g1, 0, none⟩) n k1] (by rfl) (by rfl) (World.news_of_block (cs := #[.slice (some ⟨g1, 0, none⟩) n k1]) (t := 28) (fr := (0, 0)) (heap_alloc_new w1 _)) (by simp [Value.oneCell']) (by omega) (by unfold maxLen; omega) (by omega) (Nat.zero_le _) (w1.heap.size + 1) (by simp) ?_; intro gg cap w2 hown2 hgrow hat hlt
       have kb := (hgrow.block r (by simp; omega) (fun e => HVR.out e.symm)).trans ((heap_alloc_lt (w := w1) (o := .cells #[.slice (some ⟨g1, 0, none⟩) n k1] 28) hrw1).trans HR1.out)
       have q2 := cell_at 1 kb rfl
       have f2 := free_at 1 kb
       have KB := Lib.hid kb
       clear kb)
    | (go_simp
       go_at_call 23
       refine hints.out.mono ?_
       rintro e w1 ⟨g1, k1, rfl, hO1, hB1⟩
       have hs1 := hB1.size
       have hrw1 : r < w1.heap.size := Nat.lt_of_lt_of_le hrw hs1
       have hr1 := (hB1.block r hrw).trans H1.out
       have e1 : w1.cell? ⟨r, 1, none⟩ = some (.slice a m c) := cell_at 1 hr1 rfl
       have HR1 := Lib.hid hr1
       have HO1 := Lib.hid hO1
       have HB1 := Lib.hid hB1
       have HO3 := Lib.hid (owns_of_heap H3.out (w' := w1) fun k hk => hB1.block k (owns_lt H3.out k hk))
       clear hr1 hO1 hB1)
    | fail)
  all_goals
    go_wp2_with fail
    go_ret
    obtain rfl := HM.out
    exact begin_put H0.out HF.out H1.out H2.out H4.out HB1.out HO1.out HL.out hgrow hown2 hat
end Go.Proofs.Ytifjjcenmilohaa
