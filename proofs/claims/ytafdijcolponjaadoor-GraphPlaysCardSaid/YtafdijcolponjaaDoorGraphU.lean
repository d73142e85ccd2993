/- The contracts of the document's Put, Undo, Next, Back. No condition but those in each statement; Put: at most 2 to the power 40 edges. -/
import Derived.Test.YtafdijcolponjaaDoorGraphT
import Derived.ArgAppend
namespace Go.Proofs.YtafdijcolponjaaDoor
open Go.RowKit

/-- What a call leaves of the document's graph. -/
def RGEnds (r : Nat) (F : List Nat) (v : Value) (n : Nat) (L : List (Nat × Nat)) (w : World) (e : Ending) (w' : World) : Prop :=
  e = .returned v ∧ ∃ F', RefG w' r F' n L ∧ (∀ k ∈ F', k ∈ F ∨ w.heap.size ≤ k) ∧ Chg (· ∈ F) w w'
theorem rg_idle {r : Nat} {F : List Nat} {v : Value} {n : Nat} {L : List (Nat × Nat)} {w : World} (h : RefG w r F n L) : RGEnds r F v n L w (.returned v) w :=
  ⟨rfl, F, h, fun _ hk => .inl hk, Chg.refl _ _⟩

theorem rgput_no (r n : Nat) (F : List Nat) (L : List (Nat × Nat)) (a z : Int) (w : World) (h : RefG w r F n L) (hin : ¬ (inG n a = true ∧ inG n z = true)) :
    Calls Tryd.prog 53 #[.pointer (some ⟨r, 0, none⟩), .int .i64 a, .int .i64 z] w (RGEnds r F (two false 2) n L w) := by
  have HR := Lib.hid h
  obtain ⟨v, h1, -, -, -⟩ := h
  have c0 : w.cell? ⟨r, 0, none⟩ = some (.int .i64 n) := cell_at 0 h1 rfl
  have hin' : ¬ ((0 ≤ a ∧ a < (n : Int)) ∧ (0 ≤ z ∧ z < (n : Int))) := fun h => hin ⟨decide_eq_true h.1, decide_eq_true h.2⟩
  clear h1 hin
  by_cases q1 : a < 0
  · clear hin'
    go_enter Tryd.func53, Tryd.ntmps53
    go_wp2_with fail
    go_ret2
    exact rg_idle HR.out
  · by_cases q2 : z < 0
    · clear hin'
      go_enter Tryd.func53, Tryd.ntmps53
      go_wp2_with fail
      go_ret2
      exact rg_idle HR.out
    · by_cases q3 : (n : Int) ≤ a
      · clear hin'
        go_enter Tryd.func53, Tryd.ntmps53
        go_wp2_with fail
        go_ret2
        exact rg_idle HR.out
      · have q4 : (n : Int) ≤ z := by omega
        clear hin'
        go_enter Tryd.func53, Tryd.ntmps53
        go_wp2_with fail
        go_ret2
        exact rg_idle HR.out

theorem rgput_has (r n : Nat) (F : List Nat) (L : List (Nat × Nat)) (a z : Int) (w : World) (h : RefG w r F n L) (ha : 0 ≤ a ∧ a < (n : Int)) (hz : 0 ≤ z ∧ z < (n : Int)) (hh : hasR L a z = true) :
    Calls Tryd.prog 53 #[.pointer (some ⟨r, 0, none⟩), .int .i64 a, .int .i64 z] w (RGEnds r F (two false 0) n L w) := by
  have HR := Lib.hid h
  have hH := rghas_any r n F L a z w h
  rw [hh] at hH
  have HH := Lib.hid hH
  obtain ⟨v, h1, -, -, -⟩ := h
  have c0 : w.cell? ⟨r, 0, none⟩ = some (.int .i64 n) := cell_at 0 h1 rfl
  have q1 : ¬ (a < 0) := by omega
  have q2 : ¬ (z < 0) := by omega
  have q3 : ¬ ((n : Int) ≤ a) := by omega
  have q4 : ¬ ((n : Int) ≤ z) := by omega
  clear h1 hH hh ha hz
  go_enter Tryd.func53, Tryd.ntmps53
  go_wp2_with fail
  go_fit HH.out
  rintro e w' ⟨rfl, rfl⟩
  go_wp2_with fail
  go_ret2
  exact rg_idle HR.out

/-- The graph behind an append's store. -/
theorem rgput_done {w w1 w2 : World} {r n g c i j : Nat} {F : List Nat} {L : List (Nat × Nat)} {v : Value} (h1 : w.heap[r]? = some (.cells #[.int .i64 n, v] 71 (0, 0))) (hF : F = r :: ownL v) (hN : F.Nodup)
    (o : Obj) (hw1 : w1 = w.alloc o) (hgrow : w1.grownBy w2 v.ownBlock) (hat : v.ownBlock = some g ∨ w.heap.size < g)
    (hown : w2.ownsRow 0 61 2 (.slice (some ⟨g, 0, none⟩) (L.length + 1) c) (L.length + 1) (edgeCells L ++ [.int .i64 (i : Int), .int .i64 (j : Int)])) :
    ∃ F', RefG (w2.setCell ⟨r, 1, none⟩ (.slice (some ⟨g, 0, none⟩) (L.length + 1) c)) r F' n (L ++ [(i, j)]) ∧ (∀ k ∈ F', k ∈ F ∨ w.heap.size ≤ k) ∧ Chg (· ∈ F) w (w2.setCell ⟨r, 1, none⟩ (.slice (some ⟨g, 0, none⟩) (L.length + 1) c)) := by
  have hrw := lt_of_block h1
  rw [hF] at hN
  simp only [List.nodup_cons] at hN
  have hrv : v.ownBlock ≠ some r := fun h => hN.1 (mem_ownL.2 h)
  have hgr : g ≠ r := by
    rintro rfl
    rcases hat with h | h
    · exact hrv h
    · omega
  have hb2 : w2.heap[r]? = w.heap[r]? := (hgrow.block r (by rw [hw1]; simp; omega) (fun e => hrv e.symm)).trans (by rw [hw1]; exact heap_alloc_lt hrw)
  have e1 : (L ++ [(i, j)]).length = L.length + 1 := by simp
  refine ⟨r :: [g], ⟨.slice (some ⟨g, 0, none⟩) (L.length + 1) c, ?_, ?_, rfl, by simp [Ne.symm hgr]⟩, ?_, ?_⟩
  · have := heap_set 1 (.slice (some ⟨g, 0, none⟩) (L.length + 1) c) (hb2.trans h1)
    rw [this]; rfl
  · left
    rw [e1, edgeCells_append]
    exact owns_of_heap hown fun k hk => by cases hk; exact heap_set_ne 1 _ hgr
  · intro k hk
    rw [hF]
    simp only [List.mem_cons, List.not_mem_nil, or_false] at hk ⊢
    rcases hk with hk | hk
    · exact .inl (.inl hk)
    · subst hk
      rcases hat with h | h
      · exact .inl (.inr (mem_ownL.2 h))
      · right; omega
  · have hc : Chg (· ∈ F) w w1 := by rw [hw1]; exact (Chg.refl _ _).alloc _
    exact (hc.trans (chg_grown hgrow fun k hk => by rw [hF]; exact List.mem_cons_of_mem _ (mem_ownL.2 hk))).setCell (.inl (by rw [hF]; simp)) _

set_option maxHeartbeats 1000000 in
theorem rgput_new (r n : Nat) (F : List Nat) (L : List (Nat × Nat)) (i j : Nat) (w : World) (h : RefG w r F n L) (ha : i < n) (hz : j < n) (hh : hasR L i j = false) (hlen : L.length ≤ 1099511627776) :
    Calls Tryd.prog 53 #[.pointer (some ⟨r, 0, none⟩), .int .i64 i, .int .i64 j] w (RGEnds r F (two true 0) n (L ++ [(i, j)]) w) := by
  have hH := rghas_any r n F L i j w h
  rw [hh] at hH
  have HH := Lib.hid hH
  obtain ⟨v, h1, h2, hF, hN⟩ := h
  have c0 : w.cell? ⟨r, 0, none⟩ = some (.int .i64 n) := cell_at 0 h1 rfl
  have c1 : w.cell? ⟨r, 1, none⟩ = some v := cell_at 1 h1 rfl
  have fb := free_at 1 h1
  have q1 : ¬ ((i : Int) < 0) := by omega
  have q2 : ¬ ((j : Int) < 0) := by omega
  have q3 : ¬ ((n : Int) ≤ (i : Int)) := by omega
  have q4 : ¬ ((n : Int) ≤ (j : Int)) := by omega
  have H1 := Lib.hid h1
  have H2 := Lib.hid h2
  have HF := Lib.hid hF
  have HN := Lib.hid hN
  have hrw := lt_of_block h1
  have hrv : v.ownBlock ≠ some r := fun h => by rw [hF] at hN; exact (List.nodup_cons.1 hN).1 (mem_ownL.2 h)
  obtain ⟨i0, hie, hz0, hz2, hz3⟩ := info_parts infoEdge
  have HM : Hid (L.length + 1 ≤ maxLen ∧ (L.length + 1) * 16 ≤ 140737488355328) := by
    show _ ∧ _
    unfold maxLen; omega
  clear h1 hH hh ha hz hF hN
  rcases h2 with ho | ⟨g0, cs, rfl, hg, hm, ht⟩
  · have HO := Lib.hid ho
    clear ho
    go_enter Tryd.func53, Tryd.ntmps53
    go_wp2_with fail
    go_fit HH.out
    rintro e w' ⟨rfl, rfl⟩
    go_wp2_with (first | (at_builtin; go_loud (refine wpList_append_lies _ rfl _ _ 53 rfl 0 61 i0 (.agg #[.int .i64 0, .int .i64 0]) 2 16 Tryd.underlying53 hie hz0 hz2 hz3 rfl (by decide) v L.length (edgeCells L) rfl (HO.out.alloc _) ⟨w.heap.size, 0, none⟩ 1 1 [.int .i64 i, .int .i64 j] rfl rfl (edge_new w _ _ _) (edge_cell _ _) (by decide) HM.out.1 HM.out.2 (Nat.zero_le _) (w.heap.size + 1) (by simp) ?_)) | fail)
    intro g c w3 hown3 hgrow hat hg3
    have cb3 : w3.cell? ⟨r, 1, none⟩ = some v := (World.cell?_of_block (a := ⟨r, 1, none⟩) ((hgrow.block r (by simp; omega) (fun e => hrv e.symm)).trans (heap_alloc_lt hrw))).trans c1
    have fb3 : w3.frozen? ⟨r, 1, none⟩ = false := (World.frozen?_of_block (a := ⟨r, 1, none⟩) ((hgrow.block r (by simp; omega) (fun e => hrv e.symm)).trans (heap_alloc_lt hrw))).trans fb
    have HD := Lib.hid (rgput_done H1.out HF.out HN.out _ rfl hgrow (hat.imp id (fun h => by omega)) hown3)
    clear hown3 hgrow hat hg3
    go_wp2_with fail
    go_ret2
    exact ⟨rfl, HD.out⟩
  · have HC : Hid (∀ b, (some (⟨g0, 0, none⟩ : Addr)) = some b → ∀ k u, (edgeCells L)[k]? = some u → (w.alloc (.cells #[.int .i64 i, .int .i64 j] 61)).cell? (b.add k) = some u) := by
      intro b hb k u hk
      cases hb
      have hadd : (⟨g0, 0, none⟩ : Addr).add k = ⟨g0, k, none⟩ := by unfold Addr.add; split <;> simp_all
      rw [hadd]
      refine cell_alloc (cell_at k hg ?_)
      have hkl := (List.getElem?_eq_some_iff.1 hk).1
      rw [edgeCells_len] at hkl
      rw [← ht, List.getElem?_take, if_pos hkl] at hk
      simpa using hk
    clear hg hm ht
    go_enter Tryd.func53, Tryd.ntmps53
    go_wp2_with fail
    go_fit HH.out
    rintro e w' ⟨rfl, rfl⟩
    go_wp2_with (first | (at_builtin; go_loud (refine wpList_append_grows _ rfl _ _ 53 rfl 61 i0 (.agg #[.int .i64 0, .int .i64 0]) 2 16 Tryd.underlying53 hie hz0 hz2 hz3 rfl (by decide) (some ⟨g0, 0, none⟩) L.length L.length (edgeCells L) rfl (fun e => by cases e) (edgeCells_len L) HC.out ⟨w.heap.size, 0, none⟩ 1 1 [.int .i64 i, .int .i64 j] rfl rfl (edge_new w _ _ _) (edge_cell _ _) (by omega) HM.out.1 HM.out.2 ?_)) | fail)
    intro v3 w3 hown3 hgrow
    obtain ⟨g, c, rfl, hgb, hgw3⟩ := hown3.form (by omega)
    have hgb' : w.heap.size < g := by
      have e : (w.alloc (.cells #[.int .i64 i, .int .i64 j] 61)).heap.size = w.heap.size + 1 := by simp
      omega
    have hgrow' : (w.alloc (.cells #[.int .i64 i, .int .i64 j] 61)).grownBy w3 (Value.slice (some ⟨g0, 0, none⟩) L.length L.length).ownBlock := ⟨hgrow.os, hgrow.tape, hgrow.output, hgrow.size, fun k hk _ => hgrow.block k hk (fun e => by cases e)⟩
    have cb3 : w3.cell? ⟨r, 1, none⟩ = some (.slice (some ⟨g0, 0, none⟩) L.length L.length) := (World.cell?_of_block (a := ⟨r, 1, none⟩) ((hgrow.block r (by simp; omega) (fun e => by cases e)).trans (heap_alloc_lt hrw))).trans c1
    have fb3 : w3.frozen? ⟨r, 1, none⟩ = false := (World.frozen?_of_block (a := ⟨r, 1, none⟩) ((hgrow.block r (by simp; omega) (fun e => by cases e)).trans (heap_alloc_lt hrw))).trans fb
    have HD := Lib.hid (rgput_done H1.out HF.out HN.out _ rfl hgrow' (.inr hgb') (owns_zero hown3))
    clear hown3 hgrow hgrow' hgb hgb' hgw3
    go_wp2_with fail
    go_ret2
    exact ⟨rfl, HD.out⟩

theorem rg_put (r n : Nat) (F : List Nat) (L : List (Nat × Nat)) (a z : Int) (w : World) (h : RefG w r F n L) (hlen : L.length ≤ 1099511627776) :
    Calls Tryd.prog 53 #[.pointer (some ⟨r, 0, none⟩), .int .i64 a, .int .i64 z] w (RGEnds r F (two (putV n L a z).1 (putV n L a z).2) n (putL n L a z) w) := by
  unfold putV putL
  by_cases hin : inG n a = true ∧ inG n z = true
  · rw [if_pos hin, if_pos hin]
    have ha := of_decide_eq_true hin.1
    have hz := of_decide_eq_true hin.2
    cases hh : hasR L a z with
    | true =>
      rw [if_pos rfl, if_pos rfl]
      exact rgput_has r n F L a z w h ha hz hh
    | false =>
      rw [if_neg (by simp), if_neg (by simp)]
      obtain ⟨i, rfl⟩ := Int.eq_ofNat_of_zero_le ha.1
      obtain ⟨j, rfl⟩ := Int.eq_ofNat_of_zero_le hz.1
      exact rgput_new r n F L i j w h (by omega) (by omega) hh hlen
  · rw [if_neg hin, if_neg hin]
    exact rgput_no r n F L a z w h hin
end Go.Proofs.YtafdijcolponjaaDoor
