/- The contract of a graph's Put, where the edge is new. Condition: at most 2 to the power 40 edges. -/
import Derived.Test.YtafdijcolponjaaDoorGraphC
import Derived.Deep.AppendLies
namespace Go.Proofs.YtafdijcolponjaaDoor
open Go.RowKit

theorem mem_getD {l : List Nat} {i : Nat} (h : i < l.length) : l.getD i 0 ∈ l := by
  rw [List.getD_eq_getElem?_getD, List.getElem?_eq_getElem h]
  exact List.getElem_mem h

theorem edge_new (w : World) (x y : Int) (t : TypeId) : ∀ j u, [Value.int .i64 x, .int .i64 y][j]? = some u → (w.alloc (.cells #[.int .i64 x, .int .i64 y] t)).cell? ((⟨w.heap.size, 0, none⟩ : Addr).add j) = some u := by
  intro j u hj
  match j, hj with
  | 0, hj => simp at hj; subst hj; exact cell_at 0 (heap_new _ _) rfl
  | 1, hj => simp at hj; subst hj; exact cell_at 1 (heap_new _ _) rfl
  | j + 2, hj => simp at hj
theorem edge_cell (x y : Int) : ∀ u ∈ [Value.int .i64 x, .int .i64 y], u.oneCell' = true := by
  intro u hu
  simp at hu
  rcases hu with rfl | rfl <;> rfl

set_option maxHeartbeats 1000000 in
theorem gput_new (b : Nat) (F : List Nat) (G : GM) (i j : Nat) (w : World) (h : GraphAt w b F G) (hi : i < G.n) (hj : j < G.n) (hn : G.hasB i j = false) (hlen : G.L.length ≤ 1099511627776) :
    Calls Tryd.prog 48 #[.pointer (some ⟨b, 0, none⟩), .int .i64 i, .int .i64 j] w (GEnds b F (two true 0) (G.put i j) w) := by
  have HI := Lib.hid (is_any b F G w h)
  have hA := node_any b F G i w h
  have hZ := node_any b F G j w h
  have hH := ghas_any b F G i j w h
  have n5 := (by obtain ⟨_, _, _, _, _, _, _, _, _, _, _, _, _, hok, _⟩ := h; exact hok.n500 : G.n ≤ 500)
  rw [show inG G.n (i : Int) = true from decide_eq_true (by omega)] at hA
  rw [show inG G.n (j : Int) = true from decide_eq_true (by omega)] at hZ
  rw [hn] at hH
  have HA := Lib.hid hA
  have HZ := Lib.hid hZ
  have HH := Lib.hid hH
  have HG := Lib.hid h
  obtain ⟨vt, vf, vl, ts, fs, h1, ht, hf, hl, hts, hfs, hT, hR, hok, hF, hN⟩ := h
  obtain ⟨gt, ct, rfl, ct1, hmx⟩ := ptr_cell ht hi
  obtain ⟨gf, cf, rfl, cf1, -⟩ := ptr_cell hf hj
  have hpt := mem_getD (l := ts) (i := i) (by omega)
  have hpf := mem_getD (l := fs) (i := j) (by omega)
  have hN2 := hN
  rw [hF] at hN2
  simp only [ownL_some, List.nodup_cons, List.nodup_append, List.mem_append, List.mem_singleton, not_or] at hN2
  have HT := Lib.hid (hT i hi)
  have HR := Lib.hid (hR j hj)
  generalize hp : ts.getD i 0 = p at *
  generalize hq : fs.getD j 0 = q at *
  have KP := Lib.hid hp
  have KQ := Lib.hid hq
  clear hp hq
  have c0 : w.cell? ⟨b, 0, none⟩ = some (.slice (some ⟨gt, 0, none⟩) G.n ct) := cell_at 0 h1 rfl
  have HP := Lib.hid (put_yes p j _ w HT.out (by omega))
  obtain ⟨⟨⟨⟨⟨hbt, hbf⟩, hbl⟩, hbts⟩, hbfs⟩, ⟨⟨⟨⟨-, -, htf⟩, -, htl⟩, -, hts'⟩, -, hfs'⟩⟩ := hN2
  have hbp : b ≠ p := fun e => hbts (e ▸ hpt)
  have hbq : b ≠ q := fun e => hbfs (e ▸ hpf)
  have htp : gt ≠ p := hts' gt (.inl (.inl rfl)) p hpt
  have hfp : gf ≠ p := hts' gf (.inl (.inr rfl)) p hpt
  have hpq : p ≠ q := hfs' p (.inr hpt) q hpf
  have hlp : ∀ k, k ∈ ownL vl → k ≠ p := fun k hk => hts' k (.inr hk) p hpt
  have hlq : ∀ k, k ∈ ownL vl → k ≠ q := fun k hk => hfs' k (.inl (.inr hk)) q hpf
  have hbw := lt_of_block h1
  have hpw := lt_of_block HT.out.1
  have hqw := lt_of_block HR.out.1
  have hgfw : gf < w.heap.size := World.block_lt_of_cell? w _ cf1
  have hi0 : (0 : Int) ≤ (i : Int) := by omega
  have hi1 : (i : Int) < (G.n : Int) := by omega
  have hj0 : (0 : Int) ≤ (j : Int) := by omega
  have hj1 : (j : Int) < (G.n : Int) := by omega
  have H1 := Lib.hid h1
  have HL := Lib.hid hl
  have KT := Lib.hid ht
  have KF := Lib.hid hf
  have KTs := Lib.hid hT
  have KFs := Lib.hid hR
  have KOk := Lib.hid hok
  have KFp := Lib.hid hF
  have KN := Lib.hid hN
  have KPt := Lib.hid hpt
  have KPf := Lib.hid hpf
  have KH := Lib.hid hn
  clear hA hZ hH hN hF hok hT hR ht hf hl htf htl hts' hfs' hpt hpf hbts hbfs hn
  go_enter Tryd.func48, Tryd.ntmps48
  go_wp2_with fail
  go_fit HI.out
  rintro e w' ⟨rfl, rfl⟩
  go_wp2_with fail
  go_fit HA.out
  rintro e w' ⟨rfl, rfl⟩
  go_wp2_with fail
  go_fit HZ.out
  rintro e w' ⟨rfl, rfl⟩
  go_wp2_with fail
  go_fit HH.out
  rintro e w' ⟨rfl, rfl⟩
  go_wp2_with fail
  go_fit HP.out
  rintro e w1 ⟨rfl, hS1, hC1⟩
  have hb1 := (hC1.block b hbw hbp).trans H1.out
  have cb1 : w1.cell? ⟨b, 1, none⟩ = some (.slice (some ⟨gf, 0, none⟩) G.n cf) := cell_at 1 hb1 rfl
  have cf2 := (World.cell?_of_block (a := ⟨gf, j, none⟩) (hC1.block gf hgfw hfp)).trans cf1
  have hR1 : SetAt w1 q (G.frw j) := ⟨(hC1.block q hqw (Ne.symm hpq)).trans HR.out.1, HR.out.2⟩
  have HQ := Lib.hid (put_yes q i _ w1 hR1 (by omega))
  have HS1 := Lib.hid hS1
  have HC1 := Lib.hid hC1
  have HB1 := Lib.hid hb1
  clear hS1 hC1 hb1 hR1
  go_wp2_with fail
  go_fit HQ.out
  rintro e w2 ⟨rfl, hS2, hC2⟩
  have hz1 := HC1.out.size
  have hb2 := (hC2.block b (by omega) hbq).trans HB1.out
  have cb2 : w2.cell? ⟨b, 2, none⟩ = some vl := cell_at 2 hb2 rfl
  have hl2 : w2.ownsRow 0 61 2 vl G.L.length (edgeCells G.L) := owns_chg (owns_chg HL.out HC1.out hlp) hC2 hlq
  have HL2 := Lib.hid hl2
  have HS2 := Lib.hid hS2
  have HC2 := Lib.hid hC2
  have HB2 := Lib.hid hb2
  obtain ⟨i0, hie, hz0, hz2, hz3⟩ := info_parts infoEdge
  have HM : Hid (G.L.length + 1 ≤ maxLen ∧ (G.L.length + 1) * 16 ≤ 140737488355328) := by
    show _ ∧ _
    unfold maxLen; omega
  clear hS2 hC2 hb2 hl2 hz1
  go_wp2_with (first | (at_builtin; go_loud (refine wpList_append_lies _ rfl _ _ 53 rfl 0 61 i0 (.agg #[.int .i64 0, .int .i64 0]) 2 16 Tryd.underlying53 hie hz0 hz2 hz3 rfl (by decide) vl G.L.length (edgeCells G.L) rfl (HL2.out.alloc _) ⟨w2.heap.size, 0, none⟩ 1 1 [.int .i64 i, .int .i64 j] rfl rfl (edge_new w2 _ _ _) (edge_cell _ _) (by decide) HM.out.1 HM.out.2 (Nat.zero_le _) (w2.heap.size + 1) (by simp) ?_)) | fail)
  intro g c w3 hown3 hgrow hat hg3
  have hz1 := HC1.out.size
  have hz2 := HC2.out.size
  have hb3 := (hgrow.block b (by simp; omega) (fun e => hbl (mem_ownL.2 e.symm))).trans ((heap_alloc_lt (w := w2) (o := .cells #[.int .i64 i, .int .i64 j] 61) (k := b) (by omega)).trans HB2.out)
  have cb3 := cell_at 2 hb3 rfl
  have fb3 := free_at 2 hb3
  have HB3 := Lib.hid hb3
  have HO3 := Lib.hid hown3
  have HGr := Lib.hid hgrow
  have HAt := Lib.hid hat
  clear hb3 hown3 hgrow hat hz1 hz2
  go_wp2_with fail
  go_ret2
  refine ⟨rfl, ?_⟩
  have hlt := graph_lt HG.out
  have hF := KFp.out
  have hN := KN.out
  rw [hF] at hN hlt
  have ck : ∀ k, k < w.heap.size → k ≠ p → k ≠ q → k ∉ ownL vl → k ≠ b → (w3.setCell ⟨b, 2, none⟩ (.slice (some ⟨g, 0, none⟩) (G.L.length + 1) c)).heap[k]? = w.heap[k]? := by
    intro k hk kp kq kl kb
    have z1 := HC1.out.size
    have z2 := HC2.out.size
    rw [heap_set_ne 2 _ kb, HGr.out.block k (by simp; omega) (fun e => kl (mem_ownL.2 e.symm)), heap_alloc_lt (by omega), HC2.out.block k (by omega) kq, HC1.out.block k hk kp]
  have hN2 := hN
  simp only [ownL_some, List.nodup_cons, List.nodup_append, List.mem_append, List.mem_singleton, not_or] at hN2
  obtain ⟨⟨⟨⟨⟨-, -⟩, -⟩, hbts⟩, hbfs⟩, ⟨⟨⟨⟨-, -, htf⟩, -, htl⟩, hnt, hts'⟩, hnf, hfs'⟩⟩ := hN2
  have hpt := KPt.out
  have hpf := KPf.out
  have hlw : ∀ k, k ∈ b :: (ownL (.slice (some ⟨gt, 0, none⟩) G.n ct) ++ ownL (.slice (some ⟨gf, 0, none⟩) G.n cf) ++ ownL vl ++ ts ++ fs) → k < w.heap.size := hlt
  have z1 := HC1.out.size
  have z2 := HC2.out.size
  have hpl : p ∉ ownL vl := fun h => hlp p h rfl
  have hql : q ∉ ownL vl := fun h => hlq q h rfl
  have cp : (w3.setCell ⟨b, 2, none⟩ (.slice (some ⟨g, 0, none⟩) (G.L.length + 1) c)).heap[p]? = w1.heap[p]? := by
    rw [heap_set_ne 2 _ (Ne.symm hbp), HGr.out.block p (by simp; omega) (fun e => hpl (mem_ownL.2 e.symm)), heap_alloc_lt (by omega), HC2.out.block p (by omega) hpq]
  have cq : (w3.setCell ⟨b, 2, none⟩ (.slice (some ⟨g, 0, none⟩) (G.L.length + 1) c)).heap[q]? = w2.heap[q]? := by
    rw [heap_set_ne 2 _ (Ne.symm hbq), HGr.out.block q (by simp; omega) (fun e => hql (mem_ownL.2 e.symm)), heap_alloc_lt (by omega)]
  have hgw : g ∈ ownL vl ∨ w.heap.size ≤ g := by
    rcases HAt.out with h | h
    · exact .inl (mem_ownL.2 h)
    · right; omega
  have hgb : g ≠ b := by
    rintro rfl
    rcases hgw with h | h
    · exact hbl h
    · omega
  refine ⟨b :: (ownL (.slice (some ⟨gt, 0, none⟩) G.n ct) ++ ownL (.slice (some ⟨gf, 0, none⟩) G.n cf) ++ ownL (.slice (some ⟨g, 0, none⟩) (G.L.length + 1) c) ++ ts ++ fs), ⟨_, _, _, ts, fs, ?_, ?_, ?_, ?_, hts, hfs, ?_, ?_, ?_, rfl, ?_⟩, ?_, ?_⟩
  · have := heap_set 2 (.slice (some ⟨g, 0, none⟩) (G.L.length + 1) c) HB3.out
    rw [this]; rfl
  · exact owns_of_heap KT.out fun k hk => by
      cases hk
      exact ck gt (hlw gt (by simp [ownL_some])) htp (hfs' gt (.inl (.inl (.inl rfl))) q hpf) (fun h => htl gt (.inl rfl) gt h rfl) (Ne.symm hbt)
  · exact owns_of_heap KF.out fun k hk => by
      cases hk
      exact ck gf hgfw hfp (hfs' gf (.inl (.inl (.inr rfl))) q hpf) (fun h => htl gf (.inr rfl) gf h rfl) (Ne.symm hbf)
  · have e1 : edgeCells (G.put i j).L = edgeCells G.L ++ [.int .i64 (i : Int), .int .i64 (j : Int)] := by simp [GM.put, edgeCells]
    have e2 : (G.put i j).L.length = G.L.length + 1 := by simp [GM.put]
    rw [e1, e2]
    exact owns_of_heap HO3.out fun k hk => by cases hk; exact heap_set_ne 2 _ hgb
  · intro k hk
    show SetAt _ _ (if k = i then putW (G.tow i) j else G.tow k)
    by_cases e : k = i
    · subst e
      rw [if_pos rfl, KP.out]
      exact ⟨cp.trans HS1.out.1, HS1.out.2⟩
    · rw [if_neg e]
      have hm := mem_getD (l := ts) (i := k) (by have : k < G.n := hk; omega)
      have hs := KTs.out k hk
      refine ⟨(ck _ (lt_of_block hs.1) (fun h => e (getD_inj hnt (by have : k < G.n := hk; omega) (by omega) (h.trans KP.out.symm))) (hfs' _ (.inr hm) q hpf) (fun h => hts' _ (.inr h) _ hm rfl) (fun h => hbts (h ▸ hm))).trans hs.1, hs.2⟩
  · intro k hk
    show SetAt _ _ (if k = j then putW (G.frw j) i else G.frw k)
    by_cases e : k = j
    · subst e
      rw [if_pos rfl, KQ.out]
      exact ⟨cq.trans HS2.out.1, HS2.out.2⟩
    · rw [if_neg e]
      have hm := mem_getD (l := fs) (i := k) (by have : k < G.n := hk; omega)
      have hs := KFs.out k hk
      refine ⟨(ck _ (lt_of_block hs.1) (fun h => hfs' p (.inr hpt) _ hm h.symm) (fun h => e (getD_inj hnf (by have : k < G.n := hk; omega) (by omega) (h.trans KQ.out.symm))) (fun h => hfs' _ (.inl (.inr h)) _ hm rfl) (fun h => hbfs (h ▸ hm))).trans hs.1, hs.2⟩
  · refine GM.put_ok KOk.out (fun k hk => ⟨(KTs.out k hk).2.1, (KFs.out k hk).2.1⟩) hi hj fun hmem => ?_
    have h1 := KH.out
    unfold GM.hasB memZ at h1
    rw [show inG G.n (i : Int) = true from decide_eq_true (by omega), decide_eq_true (by omega), Bool.true_and, Bool.true_and, Int.toNat_natCast, Int.toNat_natCast, KOk.out.mto i hi, decide_eq_true hmem] at h1
    cases h1
  · have := nodup_swap (A := b :: [gt, gf]) (X := ownL vl) (B := ts ++ fs) (g := g) (H := w.heap.size) (by simpa [ownL_some, List.append_assoc] using hN) (fun k hk => hlw k (by simp [ownL_some] at hk ⊢; rcases hk with h | h | h | h | h <;> simp [h])) hgw
    simpa [ownL_some, List.append_assoc] using this
  · intro k hk
    rw [hF]
    simp only [ownL_some, List.mem_cons, List.mem_append, List.not_mem_nil, or_false] at hk ⊢
    rcases hk with hk | (((hk | hk) | hk) | hk) | hk
    · exact .inl (.inl hk)
    · exact .inl (.inr (.inl (.inl (.inl (.inl hk)))))
    · exact .inl (.inr (.inl (.inl (.inl (.inr hk)))))
    · subst hk
      rcases hgw with h | h
      · exact .inl (.inr (.inl (.inl (.inr h))))
      · exact .inr h
    · exact .inl (.inr (.inl (.inr hk)))
    · exact .inl (.inr (.inr hk))
  · have hpF : p ∈ F := by rw [hF]; simp [hpt]
    have hqF : q ∈ F := by rw [hF]; simp [hpf]
    have hbF : b ∈ F := by rw [hF]; simp
    have hlF : ∀ k, vl.ownBlock = some k → k ∈ F := fun k hk => by rw [hF]; simp [mem_ownL.2 hk]
    exact ((((HC1.out.mono fun k _ e => e ▸ hpF).trans (HC2.out.mono fun k _ e => e ▸ hqF)).alloc _).trans (chg_grown HGr.out hlF)).setCell (.inl hbF) _
end Go.Proofs.YtafdijcolponjaaDoor
