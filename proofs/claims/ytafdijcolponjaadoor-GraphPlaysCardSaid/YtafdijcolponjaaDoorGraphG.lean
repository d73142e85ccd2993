/- The contract of a graph's Undo. No condition but those in each statement. -/
import Derived.Test.YtafdijcolponjaaDoorGraphF
namespace Go.Proofs.YtafdijcolponjaaDoor
open Go.RowKit

theorem gundo_no (b : Nat) (F : List Nat) (G : GM) (z : Int) (w : World) (h : GraphAt w b F G) (hz : z < 0 ∨ (G.L.length : Int) < z) :
    Calls Tryd.prog 49 #[.pointer (some ⟨b, 0, none⟩), .int .i64 z] w fun e w' => e = .returned (.int .i64 2) ∧ w = w' := by
  have HI := Lib.hid (is_any b F G w h)
  obtain ⟨vt, vf, vl, ts, fs, h1, -, -, hl, -⟩ := h
  obtain ⟨ad, c, rfl⟩ := owns_slice hl
  have c0 : w.cell? ⟨b, 2, none⟩ = some (.slice ad G.L.length c) := cell_at 2 h1 rfl
  clear h1 hl
  generalize G.L.length = n at *
  by_cases h0 : z < 0
  · clear hz
    go_enter Tryd.func49, Tryd.ntmps49
    go_wp2_with fail
    go_fit HI.out
    rintro e w' ⟨rfl, rfl⟩
    go_wp2_with fail
    go_ret
    exact ⟨rfl, rfl⟩
  · have h1 : (n : Int) < z := by omega
    clear hz
    go_enter Tryd.func49, Tryd.ntmps49
    go_wp2_with fail
    go_fit HI.out
    rintro e w' ⟨rfl, rfl⟩
    go_wp2_with fail
    go_ret
    exact ⟨rfl, rfl⟩

/-- How long the trail in memory is. -/
def tlen (b : Nat) (w : World) : Nat :=
  match w.cell? ⟨b, 2, none⟩ with
  | some (.slice _ n _) => n
  | _ => 0

/-- Behind Undo: some graph whose edges are the first m. -/
def GUndone (b : Nat) (F : List Nat) (G : GM) (m : Nat) (w w' : World) : Prop :=
  ∃ G', GraphAt w' b F G' ∧ G'.n = G.n ∧ G'.L = G.L.take m ∧ Chg (· ∈ F) w w'
def UndoR (b : Nat) (F : List Nat) (G : GM) (m : Nat) (w wr : World) : Prop := ∃ r, m ≤ r ∧ r ≤ G.L.length ∧ GUndone b F G r w wr

set_option maxRecDepth 20000 in
set_option maxHeartbeats 1000000 in
theorem gundo_yes (b : Nat) (F : List Nat) (G : GM) (m : Nat) (w : World) (h : GraphAt w b F G) (hm : m ≤ G.L.length) :
    Calls Tryd.prog 49 #[.pointer (some ⟨b, 0, none⟩), .int .i64 m] w fun e w' => e = .returned (.int .i64 0) ∧ GUndone b F G m w w' := by
  have HI := Lib.hid (is_any b F G w h)
  have HG := Lib.hid h
  obtain ⟨vt, vf, vl, ts, fs, h1, -, -, hl, -⟩ := h
  obtain ⟨ad, c, rfl⟩ := owns_slice hl
  have c0 : w.cell? ⟨b, 2, none⟩ = some (.slice ad G.L.length c) := cell_at 2 h1 rfl
  have hle : (m : Int) ≤ (G.L.length : Int) := by omega
  have hm0 : (0 : Int) ≤ (m : Int) := by omega
  clear h1 hl
  go_enter Tryd.func49, Tryd.ntmps49
  go_wp2_with fail
  go_fit HI.out
  rintro e w' ⟨rfl, rfl⟩
  go_wp2_with fail
  go_loopw [5] (fun _ wr => UndoR b F G m w wr) (fun _ wr => tlen b wr)
  case atStart => exact ⟨G.L.length, hm, Nat.le_refl _, G, HG.out, rfl, by simp, Chg.refl _ _⟩
  case round =>
    clear c0
    rename (0 : Int) ≤ (m : Int) ∧ ¬ G.L.length < m => hxx
    clear hxx
    obtain ⟨r, hmr, hrl, G', hG, hn, hL, hC⟩ := hrel
    have hlen : G'.L.length = r := by rw [hL, List.length_take]; omega
    have HGr := Lib.hid hG
    have HC := Lib.hid hC
    have HLr := Lib.hid hL
    have HN := Lib.hid hn
    obtain ⟨vt, vf, vl, ts, fs, h1, ht, hf, hl, hts, hfs, hT, hR, hok, hF, hNd⟩ := hG
    obtain ⟨ad, c, rfl⟩ := owns_slice hl
    have c0 : wr.cell? ⟨b, 2, none⟩ = some (.slice ad G'.L.length c) := cell_at 2 h1 rfl
    rw [hlen] at c0
    have htl : tlen b wr = r := by unfold tlen; rw [c0]
    have HTL := Lib.hid htl
    by_cases hlt : m < r
    · obtain ⟨s, rfl⟩ : ∃ s, r = s + 1 := ⟨r - 1, by omega⟩
      have hs : s < G.L.length := by omega
      have hL2 : G'.L = G.L.take s ++ [G.L[s]] := by rw [hL, List.take_succ_eq_append_getElem hs]
      generalize G.L[s] = e at hL2
      obtain ⟨x, y⟩ := e
      have hsl : (G.L.take s).length = s := by rw [List.length_take]; omega
      have hxy : x < G'.n ∧ y < G'.n := hok.inr (x, y) (by rw [hL2]; simp)
      have n5 := hok.n500
      have ex : (edgeCells G'.L)[s * 2]? = some (.int .i64 (x : Int)) := by
        rw [hL2, edgeCells_append, List.getElem?_append_right (by rw [edgeCells_len, hsl]; omega), edgeCells_len, hsl]
        simp
      have ey : (edgeCells G'.L)[s * 2 + 1]? = some (.int .i64 (y : Int)) := by
        rw [hL2, edgeCells_append, List.getElem?_append_right (by rw [edgeCells_len, hsl]; omega), edgeCells_len, hsl]
        simp
      rcases owns_shape hl with ⟨_, h0⟩ | ⟨gl, cl, hv, hcl, hmx⟩
      · omega
      cases hv
      have cx : wr.cell? ⟨gl, s * 2, none⟩ = _ := (hl.cellAt (s * 2) (by omega)).trans ex
      have cy : wr.cell? ⟨gl, s * 2 + 1, none⟩ = _ := (hl.cellAt (s * 2 + 1) (by omega)).trans ey
      obtain ⟨gt, ct, rfl, ct1, hmx2⟩ := ptr_cell ht hxy.1
      obtain ⟨gf, cf, rfl, cf1, -⟩ := ptr_cell hf hxy.2
      have fb := free_at 2 h1
      have cb0 : wr.cell? ⟨b, 0, none⟩ = some (.slice (some ⟨gt, 0, none⟩) G'.n ct) := cell_at 0 h1 rfl
      have cb1 : wr.cell? ⟨b, 1, none⟩ = some (.slice (some ⟨gf, 0, none⟩) G'.n cf) := cell_at 1 h1 rfl
      rw [hlen] at hcl
      unfold maxLen at hmx
      have hlt' : (m : Int) < ((s + 1 : Nat) : Int) := by omega
      have hlen' := hlen
      have hbw := lt_of_block h1
      have hgtw : gt < wr.heap.size := World.block_lt_of_cell? wr _ ct1
      have hgfw : gf < wr.heap.size := World.block_lt_of_cell? wr _ cf1
      have hpt := mem_getD (l := ts) (i := x) (by omega)
      have hpf := mem_getD (l := fs) (i := y) (by omega)
      have hN2 := hNd
      rw [hF] at hN2
      simp only [ownL_some, List.nodup_cons, List.nodup_append, List.mem_append, List.mem_singleton, not_or] at hN2
      have HT := Lib.hid (hT x hxy.1)
      have HR := Lib.hid (hR y hxy.2)
      generalize hp : ts.getD x 0 = p at *
      generalize hq : fs.getD y 0 = q at *
      have KP := Lib.hid hp
      have KQ := Lib.hid hq
      clear hp hq
      obtain ⟨⟨⟨⟨⟨hbt, hbf⟩, hbl⟩, hbts⟩, hbfs⟩, ⟨⟨⟨⟨-, htf0, htf⟩, -, htl⟩, -, hts'⟩, -, hfs'⟩⟩ := hN2
      have hbp : b ≠ p := fun e => hbts (e ▸ hpt)
      have hbq : b ≠ q := fun e => hbfs (e ▸ hpf)
      have htp : gt ≠ p := hts' gt (.inl (.inl rfl)) p hpt
      have hfp : gf ≠ p := hts' gf (.inl (.inr rfl)) p hpt
      have htq : gt ≠ q := hfs' gt (.inl (.inl (.inl rfl))) q hpf
      have hfq : gf ≠ q := hfs' gf (.inl (.inl (.inr rfl))) q hpf
      have hpq : p ≠ q := hfs' p (.inr hpt) q hpf
      have hpw := lt_of_block HT.out.1
      have hqw := lt_of_block HR.out.1
      have hlp : gl ≠ p := hts' gl (.inr rfl) p hpt
      have hlq : gl ≠ q := hfs' gl (.inl (.inr rfl)) q hpf
      have HL := Lib.hid hl
      have KT := Lib.hid ht
      have KF := Lib.hid hf
      have KTs := Lib.hid hT
      have KFs := Lib.hid hR
      have KOk := Lib.hid hok
      have KFp := Lib.hid hF
      have KN := Lib.hid hNd
      have KPt := Lib.hid hpt
      have KPf := Lib.hid hpf
      have HL2 := Lib.hid hL2
      have HCT := Lib.hid ct1
      have HCF := Lib.hid cf1
      clear hl ht hf hts' hfs' hT hR hok hF hNd hL hn hC htl hlen ex ey htf htf0 hpt hpf hbts hbfs hL2 ct1 cf1
      have a0 := cell_alloc (o := .cells #[.int .i64 0, .int .i64 0] 61) c0
      have ax := cell_alloc (o := .cells #[.int .i64 0, .int .i64 0] 61) cx
      have ay := cell_alloc (o := .cells #[.int .i64 0, .int .i64 0] 61) cy
      have hs0 : (0 : Int) ≤ (s : Int) := by omega
      have hs1 : (s : Int) ≤ 9223372036854775807 := by omega
      have Hb := Lib.hid h1
      clear h1
      go_wp2_with fail
      go_region
      have k1 : ∀ k, k < wr.heap.size → (wr.alloc (.cells #[.int .i64 x, .int .i64 y] 61)).heap[k]? = wr.heap[k]? := fun k hk => heap_alloc_lt hk
      have kn : (wr.alloc (.cells #[.int .i64 x, .int .i64 y] 61)).heap[wr.heap.size]? = some (.cells #[.int .i64 x, .int .i64 y] 61 (0, 0)) := heap_new _ _
      have kz : (wr.alloc (.cells #[.int .i64 x, .int .i64 y] 61)).heap.size = wr.heap.size + 1 := by simp
      have ko : Chg (fun _ => False) wr (wr.alloc (.cells #[.int .i64 x, .int .i64 y] 61)) := (Chg.refl _ _).alloc _
      generalize wr.alloc (.cells #[.int .i64 x, .int .i64 y] 61) = w1 at k1 kn kz ko ⊢
      have hb1 := (k1 b hbw).trans Hb.out
      rw [hlen'] at hb1
      have c1 : w1.cell? ⟨b, 2, none⟩ = some (.slice (some ⟨gl, 0, none⟩) (s + 1) c) := cell_at 2 hb1 rfl
      have fb1 := free_at 2 hb1
      have KNw := Lib.hid kn
      have HB1 := Lib.hid hb1
      have HK1 := Lib.hid k1
      have HKo := Lib.hid ko
      clear a0 ax ay c0 cx cy fb kn hb1 cb0 cb1 k1 ko
      go_wp2_with fail
      go_region
      have hb2 : (w1.setCell ⟨b, 2, none⟩ (.slice (some ⟨gl, 0, none⟩) s c)).drew.drew.heap[b]? = some (.cells #[.slice (some ⟨gt, 0, none⟩) G'.n ct, .slice (some ⟨gf, 0, none⟩) G'.n cf, .slice (some ⟨gl, 0, none⟩) s c, .bool true] 77 (0, 0)) := heap_set 2 _ HB1.out
      have k2 : ∀ k, k ≠ b → (w1.setCell ⟨b, 2, none⟩ (.slice (some ⟨gl, 0, none⟩) s c)).drew.drew.heap[k]? = w1.heap[k]? := fun k hk => heap_set_ne 2 _ hk
      have kz2 : (w1.setCell ⟨b, 2, none⟩ (.slice (some ⟨gl, 0, none⟩) s c)).drew.drew.heap.size = wr.heap.size + 1 := by rw [← kz]; simp [World.setCell]
      have ko2 : Chg (· = b) wr (w1.setCell ⟨b, 2, none⟩ (.slice (some ⟨gl, 0, none⟩) s c)).drew.drew := ((HKo.out.mono fun _ _ h => h.elim).set1 2 _).drew.drew
      generalize (w1.setCell ⟨b, 2, none⟩ (.slice (some ⟨gl, 0, none⟩) s c)).drew.drew = w2 at hb2 k2 kz2 ko2 ⊢
      have HK2 := Lib.hid k2
      have HB2 := Lib.hid hb2
      have HKo2 := Lib.hid ko2
      clear hb2 k2 ko2 c1 fb1
      have hx0 : (0 : Int) ≤ (x : Int) := by omega
      have hx1 : (x : Int) < (G'.n : Int) := by omega
      have hy0 : (0 : Int) ≤ (y : Int) := by omega
      have hy1 : (y : Int) < (G'.n : Int) := by omega
      go_wp2_with fail
      refine region_tail 10 (by kernel_rfl) (by kernel_rfl) fun w3 hS => ?_
      have hb3 := (hS.at b).trans HB2.out
      have e3 : ∀ k, k < wr.heap.size → k ≠ b → w3.heap[k]? = wr.heap[k]? := fun k hk hb => ((hS.at k).trans (HK2.out k hb)).trans (HK1.out k hk)
      have kz3 : w3.heap.size = wr.heap.size + 1 := by rw [hS.heap]; exact kz2
      have kn3 := ((hS.at wr.heap.size).trans (HK2.out wr.heap.size (by omega))).trans KNw.out
      have ko3 : Chg (· = b) wr w3 := HKo2.out.trans hS.chg
      have d0 : w3.cell? ⟨wr.heap.size, 0, none⟩ = some (.int .i64 x) := cell_at 0 kn3 rfl
      have d1 : w3.cell? ⟨wr.heap.size, 1, none⟩ = some (.int .i64 y) := cell_at 1 kn3 rfl
      have cb0 : w3.cell? ⟨b, 0, none⟩ = some (.slice (some ⟨gt, 0, none⟩) G'.n ct) := cell_at 0 hb3 rfl
      have ct3 := (World.cell?_of_block (a := ⟨gt, x, none⟩) (e3 gt hgtw (Ne.symm hbt))).trans HCT.out
      have hT3 : SetAt w3 p (G'.tow x) := ⟨(e3 p hpw (Ne.symm hbp)).trans HT.out.1, HT.out.2⟩
      have HB3 := Lib.hid hb3
      have HE3 := Lib.hid e3
      have HKo3 := Lib.hid ko3
      have HN3 := Lib.hid kn3
      have HP := Lib.hid (drop_yes p y _ w3 hT3 (by omega))
      clear hb3 ko3 kn3 e3 hT3 hS
      simp only [List.take_succ_cons, List.take_zero, List.drop_succ_cons, List.drop_zero]
      repeat still_step
      refine wpStill_nil ?_
      go_wp2_with fail
      go_fit HP.out
      rintro e w4 ⟨rfl, hS4, hC4⟩
      have hz4 := hC4.size
      have hb4 := (hC4.block b (by omega) hbp).trans HB3.out
      have e4 : ∀ k, k < wr.heap.size → k ≠ b → k ≠ p → w4.heap[k]? = wr.heap[k]? := fun k hk hb hp => (hC4.block k (by omega) hp).trans (HE3.out k hk hb)
      have kn4 := (hC4.block wr.heap.size (by omega) (by omega)).trans HN3.out
      have HS4 := Lib.hid hS4
      have HB4 := Lib.hid hb4
      have HE4 := Lib.hid e4
      have HN4 := Lib.hid kn4
      have HKo4 := Lib.hid ((HKo3.out.mono (G := fun k => k = b ∨ k = p) fun _ _ h => .inl h).trans (hC4.mono fun _ _ h => .inr h))
      clear hS4 hC4 hb4 e4 kn4 d0 d1 cb0 ct3
      go_wp2_with fail
      refine region_tail 10 (by kernel_rfl) (by kernel_rfl) fun w5 hS => ?_
      have hb5 := (hS.at b).trans HB4.out
      have e5 : ∀ k, k < wr.heap.size → k ≠ b → k ≠ p → w5.heap[k]? = wr.heap[k]? := fun k hk hb hp => (hS.at k).trans (HE4.out k hk hb hp)
      have kz5 : w4.heap.size = w5.heap.size := by rw [hS.heap]
      have kn5 := (hS.at wr.heap.size).trans HN4.out
      have ko5 := HKo4.out.trans hS.chg
      have d0 : w5.cell? ⟨wr.heap.size, 0, none⟩ = some (.int .i64 x) := cell_at 0 kn5 rfl
      have d1 : w5.cell? ⟨wr.heap.size, 1, none⟩ = some (.int .i64 y) := cell_at 1 kn5 rfl
      have cb1 : w5.cell? ⟨b, 1, none⟩ = some (.slice (some ⟨gf, 0, none⟩) G'.n cf) := cell_at 1 hb5 rfl
      have cf5 := (World.cell?_of_block (a := ⟨gf, y, none⟩) (e5 gf hgfw (Ne.symm hbf) hfp)).trans HCF.out
      have hR5 : SetAt w5 q (G'.frw y) := ⟨(e5 q hqw (Ne.symm hbq) (Ne.symm hpq)).trans HR.out.1, HR.out.2⟩
      have hS5 : SetAt w5 p (dropW (G'.tow x) y) := ⟨(hS.at p).trans HS4.out.1, HS4.out.2⟩
      have HB5 := Lib.hid hb5
      have HE5 := Lib.hid e5
      have HKo5 := Lib.hid ko5
      have HS5 := Lib.hid hS5
      have HP := Lib.hid (drop_yes q x _ w5 hR5 (by omega))
      clear hb5 ko5 kn5 e5 hR5 hS5 hS
      simp only [List.take_succ_cons, List.take_zero, List.drop_succ_cons, List.drop_zero]
      repeat still_step
      refine wpStill_nil ?_
      go_wp2_with fail
      go_fit HP.out
      rintro e w6 ⟨rfl, hS6, hC6⟩
      have hz6 := hC6.size
      have hb6 := (hC6.block b (by omega) hbq).trans HB5.out
      have e6 : ∀ k, k < wr.heap.size → k ≠ b → k ≠ p → k ≠ q → w6.heap[k]? = wr.heap[k]? := fun k hk hb hp hq => (hC6.block k (by omega) hq).trans (HE5.out k hk hb hp)
      have hp6 : SetAt w6 p (dropW (G'.tow x) y) := ⟨(hC6.block p (by omega) hpq).trans HS5.out.1, HS5.out.2⟩
      have ko6 : Chg (fun k => k = b ∨ k = p ∨ k = q) wr w6 := (HKo5.out.mono fun _ _ h => h.elim .inl fun h => .inr (.inl h)).trans (hC6.mono fun _ _ h => .inr (.inr h))
      have HS6 := Lib.hid hS6
      have HB6 := Lib.hid hb6
      have HE6 := Lib.hid e6
      have HP6 := Lib.hid hp6
      have HKo6 := Lib.hid ko6
      clear hS6 hC6 hb6 e6 hp6 ko6 d0 d1 cb1 cf5
      go_wp2_with fail
      go_roundw
      case rel =>
        have hF := KFp.out
        have hN := KN.out
        rw [hF] at hN
        have hN2 := hN
        simp only [ownL_some, List.nodup_cons, List.nodup_append, List.mem_append, List.mem_singleton, not_or] at hN2
        obtain ⟨⟨⟨⟨⟨-, -⟩, -⟩, hbts⟩, hbfs⟩, ⟨⟨⟨⟨-, -, htf⟩, -, htl⟩, hnt, hts'⟩, hnf, hfs'⟩⟩ := hN2
        have hpt := KPt.out
        have hpf := KPf.out
        have e6 := HE6.out
        have e1 : (G'.pop x y).L = G.L.take s := by show G'.L.dropLast = _; rw [HL2.out]; simp
        have e2 : (G'.pop x y).L.length = s := by rw [e1, hsl]
        have hglw : gl < wr.heap.size := owns_lt HL.out gl rfl
        have hglb : gl ≠ b := fun e => hbl e.symm
        refine ⟨s, by omega, by omega, G'.pop x y, ⟨_, _, _, ts, fs, HB6.out, ?_, ?_, ?_, hts, hfs, ?_, ?_, ?_, hF, hF ▸ hN⟩, HN.out, e1, ?_⟩
        · exact owns_of_heap KT.out fun k hk => by cases hk; exact e6 gt hgtw (Ne.symm hbt) htp htq
        · exact owns_of_heap KF.out fun k hk => by cases hk; exact e6 gf hgfw (Ne.symm hbf) hfp hfq
        · rw [e2, e1]
          have h1 := owns_take (m := s) (by omega) HL.out
          have h2 : (edgeCells G'.L).take (s * 2) = edgeCells (G.L.take s) := by
            rw [HL2.out, edgeCells_append, List.take_append_of_le_length (by rw [edgeCells_len, hsl]; omega), List.take_of_length_le (by rw [edgeCells_len, hsl]; omega)]
          rw [h2] at h1
          exact owns_of_heap h1 fun k hk => by cases hk; exact e6 gl hglw hglb hlp hlq
        · intro k hk
          show SetAt _ _ (if k = x then dropW (G'.tow x) y else G'.tow k)
          by_cases e : k = x
          · subst e
            rw [if_pos rfl, KP.out]
            exact HP6.out
          · rw [if_neg e]
            have hk' : k < G'.n := hk
            have hm := mem_getD (l := ts) (i := k) (by omega)
            have hs := KTs.out k hk
            exact ⟨(e6 _ (lt_of_block hs.1) (fun h => hbts (h ▸ hm)) (fun h => e (getD_inj hnt (by omega) (by omega) (h.trans KP.out.symm))) (hfs' _ (.inr hm) q hpf)).trans hs.1, hs.2⟩
        · intro k hk
          show SetAt _ _ (if k = y then dropW (G'.frw y) x else G'.frw k)
          by_cases e : k = y
          · subst e
            rw [if_pos rfl, KQ.out]
            exact HS6.out
          · rw [if_neg e]
            have hk' : k < G'.n := hk
            have hm := mem_getD (l := fs) (i := k) (by omega)
            have hs := KFs.out k hk
            exact ⟨(e6 _ (lt_of_block hs.1) (fun h => hbfs (h ▸ hm)) (fun h => hfs' p (.inr hpt) _ hm h.symm) (fun h => e (getD_inj hnf (by omega) (by omega) (h.trans KQ.out.symm)))).trans hs.1, hs.2⟩
        · exact GM.pop_ok KOk.out (fun k hk => ⟨(KTs.out k hk).2.1, (KFs.out k hk).2.1⟩) HL2.out
        · refine HC.out.trans (HKo6.out.mono ?_)
          rintro k _ (rfl | rfl | rfl)
          · rw [hF]; simp
          · rw [hF]; simp [hpt]
          · rw [hF]; simp [hpf]
      case measure =>
        rw [HTL.out]
        have : tlen b w6 = s := by unfold tlen; rw [show w6.cell? ⟨b, 2, none⟩ = some (.slice (some ⟨gl, 0, none⟩) s c) from cell_at 2 HB6.out rfl]
        omega
    · obtain rfl : r = m := by omega
      clear h1 ht hf hl hts hfs hT hR hok hF hNd hL hn hC htl hlen
      go_wp2_with fail
      go_ret
      exact ⟨rfl, G', HGr.out, HN.out, HLr.out, HC.out⟩
end Go.Proofs.YtafdijcolponjaaDoor
