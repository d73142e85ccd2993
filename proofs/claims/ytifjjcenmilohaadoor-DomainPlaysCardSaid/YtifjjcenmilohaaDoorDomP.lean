/- The contracts of the document's Begin and Undo. Conditions: rows of 1 to 60 truths, at most 200; fewer than 1000 levels at Begin. -/
import Derived.Test.YtifjjcenmilohaaDoorDomO
import Derived.BigRegion
namespace Go.Proofs.YtifjjcenmilohaaDoor
open Go.RowKit

theorem infoRows : (Tryd.prog.info? 51).map (fun i => (i.zero, i.size, i.bytes)) = some (some (.slice none 0 0), 1, 24) := by kernel_rfl

theorem rundo_none (r : Nat) (F : List Nat) (R : List (List Bool)) (w : World) (h : DRef w r F R []) :
    Calls Tryd.prog 19 #[.pointer (some ⟨r, 0, none⟩)] w (RDEnds r F (.int .i64 3) R [] w) := by
  have HD := Lib.hid h
  obtain ⟨vI, vT, F0, hA⟩ := h
  have c1 : w.cell? ⟨r, 1, none⟩ = some vT := cell_at 1 hA.at_ rfl
  obtain ⟨a, c, rfl⟩ := slice_form hA.thn
  clear hA
  go_enter Tryd.func19, Tryd.ntmps19
  go_wp2_with fail
  go_ret
  exact rd_idle HD.out

theorem rd_drew {r : Nat} {F : List Nat} {v : Value} {R : List (List Bool)} {hs : List KeptR} {w w' : World} {e : Ending} (h : RDEnds r F v R hs w e w') : RDEnds r F v R hs w e w'.drew := by
  obtain ⟨rfl, F', ⟨a, b, c, h1⟩, h2, h3⟩ := h
  exact ⟨rfl, F', ⟨a, b, c, h1.frame (fun _ _ => rfl) (Nat.le_refl _)⟩, h2, h3.drew⟩

theorem undo_put {w : World} {r gt kt : Nat} {vI : Value} {F0 F : List Nat} {R : List (List Bool)} {hs : List KeptR} {h : KeptR} (hA : DRefAt w r vI (.slice (some ⟨gt, 0, none⟩) (hs.length + 1) kt) F0 F R (hs ++ [h])) :
    RDEnds r F (.int .i64 0) h.2.1 hs w (.returned (.int .i64 0)) ((w.setCell ⟨r, 0, none⟩ h.1).setCell ⟨r, 1, none⟩ (.slice (some ⟨gt, 0, none⟩) hs.length kt)) := by
  have hne : ∀ k, k ≠ r → ((w.setCell ⟨r, 0, none⟩ h.1).setCell ⟨r, 1, none⟩ (.slice (some ⟨gt, 0, none⟩) hs.length kt)).heap[k]? = w.heap[k]? := fun k hk => (heap_set_ne 1 _ hk).trans (heap_set_ne 0 _ hk)
  have hsz : w.heap.size ≤ ((w.setCell ⟨r, 0, none⟩ h.1).setCell ⟨r, 1, none⟩ (.slice (some ⟨gt, 0, none⟩) hs.length kt)).heap.size := by simp [World.setCell]
  have hmem : h ∈ hs ++ [h] := by simp
  have hold : ∀ x ∈ hs, x ∈ hs ++ [h] := fun x hx => by simp [hx]
  obtain ⟨tF1, tF2, tF3, tF4⟩ := hA.tF gt rfl
  have hpw := hA.hD
  rw [List.pairwise_append] at hpw
  have hthn := hA.thn
  have e1 : (hs ++ [h]).length = hs.length + 1 := by simp
  rw [e1, List.map_append] at hthn
  have hpop := ownsRow_pop (by simp) hthn
  refine ⟨rfl, F, ⟨h.1, .slice (some ⟨gt, 0, none⟩) hs.length kt, h.2.2, ?_⟩, fun _ hk => .inl hk, ((Chg.refl _ _).setCell (p := ⟨r, 0, none⟩) (.inl hA.rF) _).setCell (p := ⟨r, 1, none⟩) (.inl hA.rF) _⟩
  refine ⟨heap_set 1 _ (heap_set 0 _ hA.at_), (hA.kept h hmem).frame (fun k hk => hne k (hA.hF h hmem k hk).2) hsz, ?_, fun x hx => (hA.kept x (hold x hx)).frame (fun k hk => hne k (hA.hF x (hold x hx) k hk).2) hsz, ?_, hA.rF, ?_, ?_, fun x hx => hA.hF x (hold x hx), hpw.1⟩
  · exact owns_of_heap hpop fun k hk => by cases hk; exact hne _ tF2
  · intro k hk
    have := hA.lt k hk
    omega
  · intro q hq
    cases hq
    exact ⟨tF1, tF2, tF4 h hmem, fun x hx => tF4 x (hold x hx)⟩
  · intro q hq
    obtain ⟨h1, h2⟩ := hA.hF h hmem q hq
    exact ⟨h1, h2, fun x hx hq' => hpw.2.2 x hx h (List.mem_singleton.2 rfl) q hq' hq⟩

theorem rundo_some (r : Nat) (F : List Nat) (R : List (List Bool)) (hs : List KeptR) (h : KeptR) (w : World) (hr : DRef w r F R (hs ++ [h])) (hl9 : hs.length ≤ 1000) :
    Calls Tryd.prog 19 #[.pointer (some ⟨r, 0, none⟩)] w (RDEnds r F (.int .i64 0) h.2.1 hs w) := by
  obtain ⟨vI, vT, F0, hA⟩ := hr
  have e1 : (hs ++ [h]).length = hs.length + 1 := by simp
  have c1 : w.cell? ⟨r, 1, none⟩ = some vT := cell_at 1 hA.at_ rfl
  have c0 : w.cell? ⟨r, 0, none⟩ = some vI := cell_at 0 hA.at_ rfl
  have f0 := free_at 0 hA.at_
  have f1 := free_at 1 hA.at_
  obtain ⟨aI, cI, rfl, -, -⟩ := hA.now.form
  have hthn := hA.thn
  rw [e1] at hthn
  rcases owns_shape hthn with ⟨rfl, hl⟩ | ⟨gt, kt, rfl, hle, hmx⟩
  · omega
  have ct : w.cell? ⟨gt, hs.length, none⟩ = some h.1 := by
    rw [hthn.cellAt hs.length (by omega), List.map_append, List.getElem?_append_right (by simp)]
    simp
  obtain ⟨a, c, hv, -, -⟩ := (hA.kept h (by simp)).form
  unfold maxLen at hmx
  have hp := undo_put hA
  rw [hv] at ct hp
  have HP := Lib.hid hp
  generalize hs.length = m at *
  generalize h.2.1.length = n' at *
  generalize R.length = n at *
  have hm0 : (0 : Int) ≤ (m : Int) := by omega
  have hm1 : (m : Int) ≤ 1000 := by omega
  have hnz : ((m + 1 : Nat) : Int) - 1 = (m : Int) := by omega
  clear hA hthn hp e1 hv
  go_enter Tryd.func19, Tryd.ntmps19
  go_wp2_with fail
  go_region
  go_wp2_with fail
  go_ret
  first
    | exact HP.out
    | exact rd_drew HP.out
    | fail

theorem begin_rput {w w1 w2 : World} {r : Nat} {vI vT v1 : Value} {F0 F F1 : List Nat} {R : List (List Bool)} {hs : List KeptR} {o : Obj} {gg cap : Nat} (hA : DRefAt w r vI vT F0 F R hs)
    (hB : Below w.heap.size w w1) (h1 : RowsAt w1 v1 R F1) (hF1 : ∀ q ∈ F1, w.heap.size ≤ q) (hgrow : (w1.alloc o).grownBy w2 vT.ownBlock)
    (hown : w2.ownsRow 0 51 1 (.slice (some ⟨gg, 0, none⟩) (hs.length + 1) cap) (hs.length + 1) (hs.map (·.1) ++ [v1])) (hat : vT.ownBlock = some gg ∨ gg = w1.heap.size + 1) (hgg : gg < w2.heap.size) :
    RDEnds r F (.int .i64 0) R (hs ++ [(v1, R, F1)]) w (.returned (.int .i64 0)) (w2.setCell ⟨r, 1, none⟩ (.slice (some ⟨gg, 0, none⟩) (hs.length + 1) cap)) := by
  have hz1 := hB.size
  have hza : (w1.alloc o).heap.size = w1.heap.size + 1 := by simp
  have hz2 := hgrow.size
  have hrF := hA.rF
  have hrlt := hA.lt r hrF
  have hTlt : ∀ q, vT.ownBlock = some q → q < w.heap.size := fun q hq => hA.lt q (hA.tF q hq).1
  have hset : ∀ k, k ≠ r → (w2.setCell ⟨r, 1, none⟩ (.slice (some ⟨gg, 0, none⟩) (hs.length + 1) cap)).heap[k]? = w2.heap[k]? := fun k hk => heap_set_ne 1 _ hk
  have hgr : ∀ k, k < w1.heap.size → vT.ownBlock ≠ some k → w2.heap[k]? = w1.heap[k]? := fun k hk hne => (hgrow.block k (by omega) (fun e => hne e.symm)).trans (heap_alloc_lt hk)
  have hold : ∀ k, k < w.heap.size → vT.ownBlock ≠ some k → w2.heap[k]? = w.heap[k]? := fun k hk hne => (hgr k (by omega) hne).trans (hB.block k hk)
  have hTr : vT.ownBlock ≠ some r := fun e => (hA.tF r e).2.1 rfl
  have hgne : ∀ k, k < w1.heap.size → vT.ownBlock ≠ some k → gg ≠ k := fun k hk hne e => by
    subst e
    rcases hat with h | h
    · exact hne h
    · omega
  have hF1lt := h1.lt
  have hsz : w2.heap.size ≤ (w2.setCell ⟨r, 1, none⟩ (.slice (some ⟨gg, 0, none⟩) (hs.length + 1) cap)).heap.size := by simp [World.setCell]
  have hlen : (hs ++ [(v1, R, F1)]).length = hs.length + 1 := by simp
  have h0T : ∀ q ∈ F0, vT.ownBlock ≠ some q := fun q hq e => (hA.tF q e).2.2.1 hq
  have hhT : ∀ x ∈ hs, ∀ q ∈ x.2.2, vT.ownBlock ≠ some q := fun x hx q hq e => (hA.tF q e).2.2.2 x hx hq
  have h1T : ∀ q ∈ F1, vT.ownBlock ≠ some q := fun q hq e => by have := hTlt q e; have := hF1 q hq; omega
  have hmem : ∀ x, x ∈ hs ++ [(v1, R, F1)] → x ∈ hs ∨ x = (v1, R, F1) := fun x hx => by simpa using hx
  refine ⟨rfl, gg :: (F1 ++ F), ⟨vI, .slice (some ⟨gg, 0, none⟩) (hs.length + 1) cap, F0, ?_⟩, ?_, ?_⟩
  · refine ⟨heap_set 1 _ ((hold r hrlt hTr).trans hA.at_), ?_, ?_, ?_, ?_, by simp [hrF], ?_, ?_, ?_, ?_⟩
    · exact hA.now.frame (fun k hk => (hset k (hA.nF k hk).2.1).trans (hold k (hA.lt k (hA.nF k hk).1) (h0T k hk))) (by omega)
    · rw [hlen, List.map_append]
      exact owns_of_heap hown fun k hk => by cases hk; exact hset gg (hgne r (by omega) hTr)
    · intro x hx
      rcases hmem x hx with hx | rfl
      · exact (hA.kept x hx).frame (fun k hk => (hset k (hA.hF x hx k hk).2).trans (hold k (hA.lt k (hA.hF x hx k hk).1) (hhT x hx k hk))) (by omega)
      · exact h1.frame (fun k hk => (hset k (by have := hF1 k hk; omega)).trans (hgr k (hF1lt k hk) (h1T k hk))) (by omega)
    · intro k hk
      simp only [List.mem_cons, List.mem_append] at hk
      rcases hk with rfl | hk | hk
      · omega
      · have := hF1lt k hk; omega
      · have := hA.lt k hk; omega
    · intro q hq
      cases hq
      refine ⟨by simp, hgne r (by omega) hTr, fun h => hgne gg (by have := hA.lt gg (hA.nF gg h).1; omega) (h0T gg h) rfl, fun x hx h => ?_⟩
      rcases hmem x hx with hx | rfl
      · exact hgne gg (by have := hA.lt gg (hA.hF x hx gg h).1; omega) (hhT x hx gg h) rfl
      · exact hgne gg (hF1lt gg h) (h1T gg h) rfl
    · intro q hq
      obtain ⟨a, b, c⟩ := hA.nF q hq
      refine ⟨by simp [a], b, fun x hx h => ?_⟩
      rcases hmem x hx with hx | rfl
      · exact c x hx h
      · have := hF1 q h; have := hA.lt q a; omega
    · intro x hx q hq
      rcases hmem x hx with hx | rfl
      · exact ⟨by simp [(hA.hF x hx q hq).1], (hA.hF x hx q hq).2⟩
      · exact ⟨by simp [show q ∈ F1 from hq], by have := hF1 q hq; omega⟩
    · rw [List.pairwise_append]
      refine ⟨hA.hD, List.pairwise_singleton _ _, fun x hx y hy q hq hq' => ?_⟩
      rw [List.mem_singleton] at hy
      subst hy
      have := hF1 q hq'; have := hA.lt q (hA.hF x hx q hq).1; omega
  · intro k hk
    simp only [List.mem_cons, List.mem_append] at hk
    rcases hk with rfl | hk | hk
    · rcases hat with h | h
      · exact .inl (hA.tF _ h).1
      · exact .inr (by omega)
    · exact .inr (hF1 k hk)
    · exact .inl hk
  · refine Chg.setCell (p := ⟨r, 1, none⟩) ?_ (.inl hrF) _
    have hc1 : Chg (· ∈ F) w w1 := ⟨hB.os, hB.tape, hB.output, hz1, fun k hk _ => hB.block k hk⟩
    exact (hc1.alloc o).trans (chg_grown hgrow fun k hk => (hA.tF k hk).1)

theorem undrew_below {w w' : World} (h : Below w.drew.heap.size w.drew w') : Below w.heap.size w w' := ⟨h.os, h.tape, h.output, h.size, h.block⟩

theorem rbegin_full (r : Nat) (F : List Nat) (R : List (List Bool)) (hs : List KeptR) (w : World) (h : DRef w r F R hs) (hl : hs.length = 1000) :
    Calls Tryd.prog 17 #[.pointer (some ⟨r, 0, none⟩)] w (RDEnds r F (.int .i64 7) R hs w) := by
  have HD := Lib.hid h
  obtain ⟨vI, vT, F0, hA⟩ := h
  have c1 : w.cell? ⟨r, 1, none⟩ = some vT := cell_at 1 hA.at_ rfl
  obtain ⟨a, c, rfl⟩ := slice_form hA.thn
  rw [hl] at c1
  clear hA hl
  go_enter Tryd.func17, Tryd.ntmps17
  go_wp2_with fail
  go_ret
  exact rd_idle HD.out

set_option maxHeartbeats 1000000 in
theorem rbegin_some (r : Nat) (F : List Nat) (R : List (List Bool)) (hs : List KeptR) (w : World) (h : DRef w r F R hs) (hR : RowsOk R) (hl : hs.length < 1000) :
    Calls Tryd.prog 17 #[.pointer (some ⟨r, 0, none⟩)] w (fun e w' => ∃ k : KeptR, k.2.1 = R ∧ RDEnds r F (.int .i64 0) R (hs ++ [k]) w e w') := by
  obtain ⟨vI, vT, F0, hA⟩ := h
  obtain ⟨i0, hi, hz0, hz1, hz2⟩ := info_parts infoRows
  have c1 : w.cell? ⟨r, 1, none⟩ = some vT := cell_at 1 hA.at_ rfl
  have c0 : w.cell? ⟨r, 0, none⟩ = some vI := cell_at 0 hA.at_ rfl
  have HCp := Lib.hid (copied_any vI F0 R w.drew hA.now hR)
  unfold CopyEnds at HCp
  obtain ⟨aI, cI, rfl, -, -⟩ := hA.now.form
  have hthn := hA.thn
  obtain ⟨a, c, rfl⟩ := slice_form hthn
  have hvr : ¬ (Value.slice a hs.length c).ownBlock = some r := fun e => (hA.tF r e).2.1 rfl
  have hrw := lt_of_block hA.at_
  have H1 := Lib.hid hA.at_
  have HA := Lib.hid hA
  have HVR := Lib.hid hvr
  have HT := Lib.hid hthn
  generalize hm : hs.length = m at *
  have HM := Lib.hid hm
  clear hm hA hthn hvr
  generalize hn : R.length = n at *
  clear hn
  have hd : ((m : Int) == 1000) = false := by simp; omega
  have HMx : Hid (m + 1 ≤ maxLen ∧ (m + 1) * 24 ≤ 140737488355328) := by
    show _ ∧ _
    unfold maxLen; omega
  go_enter Tryd.func17, Tryd.ntmps17
  go_wp2_with fail
  go_region_law (first
    | (refine step_append_lies _ (by rfl) _ _ _ (by rfl) 0 51 i0 _ 1 24 Tryd.underlying52 hi hz0 hz1 hz2 rfl (by decide) (.slice a m c) m (hs.map (·.1)) (by rfl) (HO3.out.alloc _) ⟨w1.heap.size, 0, none⟩ 1 1 [.slice ad1 n1 k1] (by rfl) (by rfl) (World.news_of_block (cs := #[.slice ad1 n1 k1]) (heap_new _ _)) (slice_one (.slice ad1 n1 k1) ⟨_, _, _, rfl⟩) (by decide) HMx.out.1 HMx.out.2 (Nat.zero_le _) (w1.heap.size + 1) (by simp) ?_
       intro gg cap w2 hown2 hgrow hat hgg
       have kb := (hgrow.block r (by simp; omega) (fun e => HVR.out e.symm)).trans ((heap_alloc_lt (w := w1) (o := .cells #[.slice ad1 n1 k1] 51) hrw1).trans HR1.out)
       have q2 := cell_at 1 kb rfl
       have f2 := free_at 1 kb
       have KB := Lib.hid kb
       have HGr := Lib.hid hgrow
       have HOw := Lib.hid hown2
       have HAt := Lib.hid hat
       have HGg := Lib.hid hgg
       clear kb hgrow hown2 hat hgg)
    | (go_simp
       go_at_call 33
       refine HCp.out.mono ?_
       rintro e w1 ⟨v1, F1, rfl, hO1, hF1, hB1⟩
       obtain ⟨ad1, k1, hv1, -, -⟩ := hO1.form
       obtain ⟨n1, hn1⟩ : ∃ n1, n1 = R.length := ⟨_, rfl⟩
       rw [← hn1] at hv1
       subst hv1
       have hs1 := hB1.size
       have hrw1 : r < w1.heap.size := Nat.lt_of_lt_of_le hrw hs1
       have hr1 := (hB1.block r hrw).trans H1.out
       have e1 : w1.cell? ⟨r, 1, none⟩ = some (.slice a m c) := cell_at 1 hr1 rfl
       have HR1 := Lib.hid hr1
       have HO1 := Lib.hid hO1
       have HB1 := Lib.hid hB1
       have HF1 := Lib.hid hF1
       have HO3 := Lib.hid (owns_of_heap HT.out (w' := w1) fun k hk => hB1.block k (owns_lt HT.out k hk))
       clear hr1 hO1 hB1 hF1 hn1)
    | fail)
  all_goals
    go_wp2_with fail
    go_ret
    obtain rfl := HM.out
    exact ⟨(_, R, F1), rfl, begin_rput HA.out (undrew_below HB1.out) HO1.out HF1.out HGr.out HOw.out HAt.out HGg.out⟩
end Go.Proofs.YtifjjcenmilohaaDoor
