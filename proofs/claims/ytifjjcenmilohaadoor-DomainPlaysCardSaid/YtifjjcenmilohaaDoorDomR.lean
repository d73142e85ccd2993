/- The contracts of the document's May and Make. Conditions: good sizes at Make. -/
import Derived.Test.YtifjjcenmilohaaDoorDomQ
namespace Go.Proofs.YtifjjcenmilohaaDoor
open Go.RowKit

def RMayRel (w : World) (l : List Int) (i : Value) (wr : World) : Prop :=
  ∃ k : Nat, k ≤ l.length ∧ i = .int .i64 k ∧ wr = w ∧ ∀ j, j < k → 1 ≤ l.getD j 0 ∧ l.getD j 0 ≤ 60
theorem rdmay_any (a : Option Addr) (len cap : Nat) (l : List Int) (w : World) (h : Src w a len cap 1 (intl l)) :
    Calls Tryd.prog 8 #[.slice a len cap] w fun e w' => e = .returned (.bool (szB l)) ∧ w = w' := by
  have hl : l.length = len := by have := h.1; simpa [intl] using this
  have hle := h.2.2.1
  have hx := h.2.2.2.1
  unfold maxLen at hx
  subst hl
  have HA := Lib.hid h
  clear h
  obtain ⟨sb, hsb⟩ : ∃ sb, sb = szB l := ⟨_, rfl⟩
  rw [← hsb]
  have HSb := Lib.hid hsb
  clear hsb
  go_enter Tryd.func8, Tryd.ntmps8
  go_wp2_with fail
  go_loopw [3] (fun i wr => RMayRel w l i wr) (fun i _ => l.length - (intOf i).toNat)
  case atStart => exact ⟨0, Nat.zero_le _, rfl, rfl, fun j hj => absurd hj (Nat.not_lt_zero j)⟩
  case round =>
    obtain ⟨k, hk, rfl, rfl, hall⟩ := hrel
    by_cases hlt : k < l.length
    · obtain ⟨b, o, hab, hc⟩ := HA.out.plain (by omega)
      cases hab
      have hc1 := hc k hlt
      generalize hz : l.getD k 0 = z at hc1
      have hk0 : (0 : Int) ≤ (k : Int) := by omega
      have hk1 : (k : Int) < (l.length : Int) := by omega
      have HAll := Lib.hid hall
      have HZ := Lib.hid hz
      clear hc hall hz
      by_cases h1 : z < 1
      · have HF : Hid (sb = false) := by
          show _ = _
          rw [HSb.out]
          exact szB_no hlt (by rw [HZ.out]; omega)
        go_wp2_with fail
        go_ret
        exact ⟨ret_bool HF.out.symm, rfl⟩
      · by_cases h2 : 60 < z
        · have HF : Hid (sb = false) := by
            show _ = _
            rw [HSb.out]
            exact szB_no hlt (by rw [HZ.out]; omega)
          go_wp2_with fail
          go_ret
          exact ⟨ret_bool HF.out.symm, rfl⟩
        · have HZ2 : Hid (1 ≤ l.getD k 0 ∧ l.getD k 0 ≤ 60) := by show _ ∧ _; rw [HZ.out]; omega
          go_wp2_with fail
          go_roundw
          case rel =>
            refine ⟨k + 1, hlt, by go_num, rfl, fun j hj => ?_⟩
            by_cases hjk : j < k
            · exact HAll.out j hjk
            · obtain rfl : j = k := by omega
              exact HZ2.out
          case measure => simp [intOf]; omega
    · obtain rfl : k = l.length := by omega
      by_cases h2 : l.length ≤ 200
      · have HF : Hid (sb = true) := by
          show _ = _
          rw [HSb.out]
          exact szB_yes h2 hall
        have h2' : (l.length : Int) ≤ 200 := by omega
        clear hall
        go_wp2_with fail
        go_ret
        exact ⟨ret_bool HF.out.symm, rfl⟩
      · have HF : Hid (sb = false) := by
          show _ = _
          rw [HSb.out]
          exact szB_long h2
        have h2' : ¬ (l.length : Int) ≤ 200 := by omega
        clear hall
        go_wp2_with fail
        go_ret
        exact ⟨ret_bool HF.out.symm, rfl⟩

def allR (l : List Int) : List (List Bool) := l.map fun x => List.replicate x.toNat true
theorem rowX_full (s : Nat) : rowX s (full s) = List.replicate s true := by
  refine List.ext_getElem (by simp [rowX]) fun i h1 h2 => ?_
  have hi : i < s := by simpa [rowX] using h1
  simp [rowX, full_bit, hi]
theorem allR_eq (l : List Int) : rowsX (szN l) ((szN l).map full) = allR l := by
  refine List.ext_getElem (by simp [rowsX, allR, szN]) fun i h1 h2 => ?_
  have hi : i < l.length := by simpa [rowsX, szN] using h1
  simp only [rowsX, allR, List.getElem_map, List.getElem_range]
  have e1 : (szN l).getD i 0 = (l[i]).toNat := by rw [szN_at hi]; simp [hi]
  have e2 : ((szN l).map full).getD i 0 = full (l[i]).toNat := by
    rw [List.getD_eq_getElem?_getD, List.getElem?_map, List.getElem?_eq_getElem (by rw [szN_len]; exact hi)]
    simp [szN]
  rw [e1, e2, rowX_full]
def RMakeEnds (l : List Int) (w : World) (e : Ending) (w' : World) : Prop :=
  ∃ F, e = .returned (.pointer (some ⟨w.heap.size, 0, none⟩)) ∧ DRef w' w.heap.size F (allR l) [] ∧ (∀ k ∈ F, w.heap.size ≤ k) ∧ Below w.heap.size w w'
def RMakeRel (w : World) (l : List Int) (i : Value) (wr : World) : Prop :=
  ∃ (k : Nat) (vI : Value) (F0 : List Nat), k ≤ l.length ∧ i = .int .i64 k ∧ wr.heap[w.heap.size]? = some (.cells #[vI, .slice none 0 0] 54 (0, 0)) ∧ RowsAt wr vI ((allR l).take k) F0 ∧ (∀ q ∈ F0, w.heap.size < q) ∧ Below w.heap.size w wr
def RRowRel (wA : World) (s : Nat) (v j : Value) (wr : World) : Prop :=
  ∃ k : Nat, k ≤ s ∧ j = .int .i64 k ∧ wr.ownsRow wA.heap.size 4 1 v k (bv (List.replicate k true)) ∧ Below wA.heap.size wA wr

theorem true_one : ∀ u ∈ [Value.bool true], u.oneCell' = true := by
  intro u hu
  rw [List.mem_singleton] at hu
  subst hu; rfl
theorem true_new (w : World) (t : TypeId) : ∀ j u, [Value.bool true][j]? = some u → (w.alloc (.cells #[.bool true] t)).cell? ((⟨w.heap.size, 0, none⟩ : Addr).add j) = some u := World.news_of_block (heap_new _ _)

set_option maxHeartbeats 2000000 in
theorem rmake_any (a : Option Addr) (len cap : Nat) (l : List Int) (w : World) (h : Src w a len cap 1 (intl l)) (hs : szB l = true) :
    Calls Tryd.prog 10 #[.slice a len cap] w (RMakeEnds l w) := by
  have hl : l.length = len := by have := h.1; simpa [intl] using this
  have hle := h.2.2.1
  have hx := h.2.2.2.1
  unfold maxLen at hx
  subst hl
  have HA := Lib.hid h
  obtain ⟨hn, hrng⟩ := szB_rng hs
  have HRng := Lib.hid hrng
  obtain ⟨i0, hi, hz0, hz1, hz2⟩ := info_parts infoBool
  obtain ⟨i1, hi', hz0', hz1', hz2'⟩ := info_parts infoBools
  clear h hs hrng
  go_enter Tryd.func10, Tryd.ntmps10
  go_wp2_with fail
  obtain ⟨r, hr⟩ : ∃ r, r = w.heap.size := ⟨_, rfl⟩
  have HR := Lib.hid hr
  have HS0 : Hid (RMakeRel w l (.int .i64 0) (w.alloc (.cells #[.slice none 0 0, .slice none 0 0] 54))) :=
    ⟨0, .slice none 0 0, _, Nat.zero_le _, rfl, heap_new _ _, RowsAt.start ⟨rfl, .inl ⟨rfl, rfl⟩⟩, (fun q hq => by simp [ownL_none] at hq), (Below.refl _ _).alloc (Nat.le_refl _) _⟩
  rw [← hr]
  clear hr
  go_loopw [4] (fun i wr => RMakeRel w l i wr) (fun i _ => l.length - (intOf i).toNat)
  case atStart => exact HS0.out
  case round =>
    clear HS0
    obtain ⟨k, vI, F0, hk, rfl, hblk, hA0, hF0, hB⟩ := hrel
    rw [← HR.out] at hblk hF0
    obtain ⟨wA, rfl⟩ : ∃ x, x = wr := ⟨_, rfl⟩
    by_cases hlt : k < l.length
    · obtain ⟨b, o, hab, hc⟩ := HA.out.plain (by omega)
      cases hab
      have hc1 := (hB.cell (p := ⟨b, o + k, none⟩) (World.block_lt_of_cell? w _ (hc k hlt))).trans (hc k hlt)
      obtain ⟨hx1, hx2⟩ := HRng.out k hlt
      have htk : (allR l).take (k + 1) = (allR l).take k ++ [List.replicate (l.getD k 0).toNat true] := by
        have hkl : k < (allR l).length := by simpa [allR] using hlt
        rw [List.take_succ_eq_append_getElem hkl]
        simp [allR, hlt]
      have hlk : ((allR l).take k).length = k := by simp [allR]; omega
      generalize l.getD k 0 = z at *
      obtain ⟨s, rfl⟩ := Int.eq_ofNat_of_zero_le (show 0 ≤ z by omega)
      rw [Int.toNat_natCast] at htk
      generalize (allR l).take k = Rk at *
      subst hlk
      have HTk := Lib.hid htk
      have HBlk := Lib.hid hblk
      have HF0 := Lib.hid hF0
      have HB := Lib.hid hB
      have HA0 := Lib.hid hA0
      have HC1 := Lib.hid hc1
      have hk0 : (0 : Int) ≤ (Rk.length : Int) := by omega
      have hk1 : (Rk.length : Int) < (l.length : Int) := by omega
      have hrow := World.ownsRow_made (base := wA.heap.size) (e := 4) (size := 1) wA #[] 0 (Nat.le_refl _) (by decide) rfl
      have HI0 : Hid (RRowRel wA s (.slice (some ⟨wA.heap.size, 0, none⟩) 0 0) (.int .i64 0) (wA.alloc (.cells #[] 4))) :=
        ⟨0, Nat.zero_le _, rfl, hrow, (Below.refl _ _).alloc (Nat.le_refl _) _⟩
      clear htk hblk hF0 hB hA0 hc hc1 hrow
      go_wp2_with fail
      go_loopw [5, 6] (fun v j wr => RRowRel wA s v j wr) (fun _ j _ => s - (intOf j).toNat)
      case atStart => exact HI0.out
      case round =>
        clear HI0
        obtain ⟨j, hj, rfl, hown, hBj⟩ := hrel
        obtain ⟨wB, rfl⟩ : ∃ x, x = wr := ⟨_, rfl⟩
        obtain ⟨vB, rfl⟩ : ∃ x, x = u5 := ⟨_, rfl⟩
        have hc2 := (hBj.cell (p := ⟨b, o + Rk.length, none⟩) (World.block_lt_of_cell? wA _ HC1.out)).trans HC1.out
        have hj0 : (0 : Int) ≤ (j : Int) := by omega
        have HO := Lib.hid hown
        have HBj := Lib.hid hBj
        by_cases hjl : j < s
        · have hj1 : (j : Int) < (s : Int) := by omega
          have HM : Hid (j + 1 ≤ maxLen ∧ (j + 1) * 1 ≤ 140737488355328) := by
            show _ ∧ _
            unfold maxLen; omega
          have hb2 : Hid (∀ o, wA.heap.size ≤ (wB.alloc o).heap.size) := fun o => by have := hBj.size; simp; omega
          clear hown hBj
          go_wp2_with (first | (at_builtin; go_loud (refine wpList_append_own _ rfl _ _ 55 rfl wA.heap.size 4 i0 (.bool false) 1 1 Tryd.underlying55 hi hz0 hz1 hz2 rfl (by decide) vB j (bv (List.replicate j true)) rfl (HO.out.alloc _) ⟨wB.heap.size, 0, none⟩ 1 1 [.bool true] rfl rfl (true_new wB _) true_one HM.out.1 HM.out.2 (hb2.out _) ?_)) | fail)
          intro v' w2 hown1 hgrow hnn
          have HO2 := Lib.hid hown1
          have HG := Lib.hid hgrow
          clear hnn hown1 hgrow
          go_wp2_with fail
          go_roundw
          case rel =>
            refine ⟨j + 1, by omega, by go_num, ?_, (HBj.out.alloc HBj.out.size _).grown HG.out (hb2.out _) (fun q hq => (World.ownsRow.lt HO.out q hq).1)⟩
            have e : bv (List.replicate (j + 1) true) = bv (List.replicate j true) ++ [Value.bool true] := by simp [bv, List.replicate_succ']
            rw [e]
            exact HO2.out
          case measure => simp [intOf]; omega
        · obtain rfl : j = s := by omega
          obtain ⟨aB, cB, rfl⟩ := slice_form hown
          have hblkB := (hBj.block r (by have := lt_of_block HBlk.out; exact this)).trans HBlk.out
          obtain ⟨aI, cI, rfl, -, -⟩ := HA0.out.form
          have c0 : wB.cell? ⟨r, 0, none⟩ = some (.slice aI Rk.length cI) := cell_at 0 hblkB rfl
          have HBlkB := Lib.hid hblkB
          obtain ⟨vs, q1, q2, q3, q4, q5, q6⟩ := HA0.out
          have Q1 := Lib.hid q1
          have Q2 := Lib.hid q2
          have Q3 := Lib.hid q3
          have Q4 := Lib.hid q4
          have Q5 := Lib.hid q5
          have Q6 := Lib.hid q6
          have HVs1 := Lib.hid (owns_of_heap q1 fun x hx => hBj.block x (owns_lt q1 x hx))
          have HN1 : Hid (∀ i u, [Value.slice aB j cB][i]? = some u → (wB.alloc (.cells #[.slice aB j cB] 55)).cell? ((⟨wB.heap.size, 0, none⟩ : Addr).add i) = some u) := World.news_of_block (heap_new _ _)
          have HOne := Lib.hid (slice_one (.slice aB j cB) ⟨_, _, _, rfl⟩)
          have HM : Hid (Rk.length + 1 ≤ maxLen ∧ (Rk.length + 1) * 24 ≤ 140737488355328) := by
            show _ ∧ _
            unfold maxLen; omega
          clear hown hBj hblkB q1 q2 q3 q4 q5 q6
          go_wp2_with (first | (at_builtin; go_loud (refine wpList_append_lies _ rfl _ _ 51 rfl 0 55 i1 (.slice none 0 0) 1 24 Tryd.underlying51 hi' hz0' hz1' hz2' rfl (by decide) (.slice aI Rk.length cI) Rk.length vs rfl (HVs1.out.alloc _) ⟨wB.heap.size, 0, none⟩ 1 1 [_] rfl rfl HN1.out HOne.out (by decide) HM.out.1 HM.out.2 (Nat.zero_le _) (wB.heap.size + 1) (by simp) ?_)) | fail)
          intro g5 c5 w3 hown3 hgrow hat hg3
          have hz0w := HB.out.size
          have hz1w := HBj.out.size
          have hrlt := lt_of_block HBlk.out
          have hrw := HR.out
          have hne : (Value.slice aI Rk.length cI).ownBlock ≠ some r := fun e => by have := HF0.out r (Q4.out r e); omega
          have hblk3 := (hgrow.block r (by simp; omega) (fun e => hne e.symm)).trans ((heap_alloc_lt (w := wB) (o := .cells #[.slice aB j cB] 55) (by omega)).trans HBlkB.out)
          have c3 : w3.cell? ⟨r, 0, none⟩ = some (.slice aI Rk.length cI) := cell_at 0 hblk3 rfl
          have f3 := free_at 0 hblk3
          have hown' : wB.ownsRow wA.heap.size 4 1 (.slice aB j cB) (List.replicate j true).length (bv (List.replicate j true)) := by rw [List.length_replicate]; exact HO.out
          have hp := RowsAt.push Q1.out Q2.out Q3.out Q5.out Q6.out HBj.out hown' _ hgrow (hat.imp id (fun h => by simp; omega)) hg3 hown3
          have hFn : ∀ q ∈ g5 :: (ownL (.slice aB j cB) ++ F0), r < q := by
            intro q hq
            simp only [List.mem_cons, List.mem_append] at hq
            rcases hq with rfl | hq | hq
            · rcases hat with h | h
              · exact HF0.out _ (Q4.out _ h)
              · omega
            · have := (World.ownsRow.lt HO.out q (mem_ownL.1 hq)).1; omega
            · exact HF0.out q hq
          have hBn : Below w.heap.size w w3 := ((HB.out.trans (HBj.out.mono hz0w)).alloc (by omega) _).grown hgrow (by simp; omega) (fun q hq => by have := HF0.out q (Q4.out q hq); omega)
          have HP := Lib.hid hp
          have HFn := Lib.hid hFn
          have HBn := Lib.hid hBn
          have HB3 := Lib.hid hblk3
          clear hown3 hgrow hat hg3 hown' hp hFn hBn hblk3 hne hrw c0
          go_wp2_with fail
          go_roundw
          case rel =>
            have hs := heap_set 0 (.slice (some ⟨g5, 0, none⟩) (Rk.length + 1) c5) HB3.out
            have hrw := HR.out
            refine ⟨Rk.length + 1, .slice (some ⟨g5, 0, none⟩) (Rk.length + 1) c5, g5 :: (ownL (.slice aB j cB) ++ F0), by omega, by go_num, ?_, ?_, ?_, ?_⟩
            · rw [← hrw]; exact hs
            · rw [HTk.out]
              exact HP.out.frame (fun k hk => heap_set_ne 0 _ (by have := HFn.out k hk; omega)) (by simp [World.setCell])
            · rw [← hrw]; exact HFn.out
            · exact HBn.out.setCell (by show w.heap.size ≤ r; omega) _
          case measure => simp [intOf]; omega
    · obtain rfl : k = l.length := by omega
      have htl : (allR l).take l.length = allR l := by
        rw [List.take_of_length_le]; simp [allR]
      rw [htl] at hA0
      have HBlk := Lib.hid hblk
      have HF0 := Lib.hid hF0
      have HB := Lib.hid hB
      have HA0 := Lib.hid hA0
      clear hblk hF0 hB hA0 htl
      go_wp2_with fail
      go_ret
      have hb := HBlk.out
      have hrw := HR.out
      subst hrw
      refine ⟨w.heap.size :: F0, rfl, ⟨vI, .slice none 0 0, F0, ?_⟩, fun q hq => ?_, HB.out⟩
      · refine ⟨hb, HA0.out, ⟨rfl, .inl ⟨rfl, rfl⟩⟩, fun h hh => (by cases hh), fun q hq => ?_, by simp, fun q hq => (by cases hq), fun q hq => ⟨by simp [hq], by have := HF0.out q hq; omega, fun h hh => (by cases hh)⟩, fun h hh => (by cases hh), List.Pairwise.nil⟩
        simp only [List.mem_cons] at hq
        rcases hq with rfl | hq
        · exact lt_of_block hb
        · exact HA0.out.lt q hq
      · simp only [List.mem_cons] at hq
        rcases hq with rfl | hq
        · exact Nat.le_refl _
        · exact Nat.le_of_lt (HF0.out q hq)
end Go.Proofs.YtifjjcenmilohaaDoor
