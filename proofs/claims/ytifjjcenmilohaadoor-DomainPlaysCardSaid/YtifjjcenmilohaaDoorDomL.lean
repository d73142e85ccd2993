/- The contract of the document's 'copied'. Conditions: rows of 1 to 60 truths, at most 200. -/
import Derived.Test.YtifjjcenmilohaaDoorDomK
namespace Go.Proofs.YtifjjcenmilohaaDoor
open Go.RowKit

theorem infoBool : (Tryd.prog.info? 4).map (fun i => (i.zero, i.size, i.bytes)) = some (some (.bool false), 1, 1) := by kernel_rfl
theorem infoBools : (Tryd.prog.info? 55).map (fun i => (i.zero, i.size, i.bytes)) = some (some (.slice none 0 0), 1, 24) := by kernel_rfl
def RowsOk (R : List (List Bool)) : Prop := R.length ≤ 200 ∧ ∀ i, i < R.length → 1 ≤ (R.getD i []).length ∧ (R.getD i []).length ≤ 60
def CopyEnds (R : List (List Bool)) (w : World) (e : Ending) (w' : World) : Prop :=
  ∃ v F', e = .returned v ∧ RowsAt w' v R F' ∧ (∀ q ∈ F', w.heap.size ≤ q) ∧ Below w.heap.size w w'
def CopyRel (w : World) (R : List (List Bool)) (v i : Value) (wr : World) : Prop :=
  ∃ (k : Nat) (F' : List Nat), k ≤ R.length ∧ i = .int .i64 k ∧ RowsAt wr v (R.take k) F' ∧ (∀ q ∈ F', w.heap.size ≤ q) ∧ Below w.heap.size w wr
theorem bv_one (l : List Bool) : ∀ u ∈ bv l, u.oneCell' = true := by
  intro u hu
  obtain ⟨b, -, rfl⟩ := List.mem_map.1 hu
  rfl

set_option maxHeartbeats 1000000 in
theorem copied_any (vsrc : Value) (F : List Nat) (R : List (List Bool)) (w : World) (h : RowsAt w vsrc R F) (hR : RowsOk R) :
    Calls Tryd.prog 33 #[vsrc] w (CopyEnds R w) := by
  have HS := Lib.hid h
  have HR := Lib.hid hR
  have hn := hR.1
  obtain ⟨asrc, csrc, rfl, hf1, hf2⟩ := h.form
  obtain ⟨i0, hi, hz0, hz1, hz2⟩ := info_parts infoBool
  obtain ⟨i1, hi', hz0', hz1', hz2'⟩ := info_parts infoBools
  have hrow := World.ownsRow_made (base := w.heap.size) (e := 55) (size := 1) w #[] 0 (Nat.le_refl _) (by decide) rfl
  have HS0 : Hid (CopyRel w R (.slice (some ⟨w.heap.size, 0, none⟩) 0 0) (.int .i64 0) (w.alloc (.cells #[] 55))) :=
    ⟨0, _, Nat.zero_le _, rfl, RowsAt.start (owns_zero hrow), fun q hq => by have := mem_ownL.1 hq; cases this; exact Nat.le_refl _, (Below.refl _ _).alloc (Nat.le_refl _) _⟩
  clear h hR hrow
  go_enter Tryd.func33, Tryd.ntmps33
  go_wp2_with fail
  go_loopw [3, 4] (fun v i wr => CopyRel w R v i wr) (fun _ i _ => R.length - (intOf i).toNat)
  case atStart => exact HS0.out
  case round =>
    clear HS0
    obtain ⟨k, F', hk, rfl, hA, hF', hB⟩ := hrel
    obtain ⟨wA, rfl⟩ : ∃ x, x = wr := ⟨_, rfl⟩
    obtain ⟨vA, rfl⟩ : ∃ x, x = u3 := ⟨_, rfl⟩
    by_cases hlt : k < R.length
    · obtain ⟨hl1, hl2⟩ := HR.out.2 k hlt
      obtain ⟨g, c, a, cc, hv, hc1, hc2, hcell, hc3, hc4, hrow, -⟩ := (HS.out.below hB (Nat.le_refl _)).row hlt
      simp only [Value.slice.injEq] at hv
      obtain ⟨rfl, -, rfl⟩ := hv
      have htk : R.take (k + 1) = R.take k ++ [R.getD k []] := by
        rw [List.take_succ_eq_append_getElem hlt]
        simp [hlt]
      have hlk : (R.take k).length = k := by simp; omega
      generalize R.getD k [] = x at *
      generalize R.take k = Rk at *
      subst hlk
      rcases owns_shape hrow with ⟨h0, h0'⟩ | ⟨q, c', hq, -, -⟩
      · omega
      simp only [Value.slice.injEq] at hq
      obtain ⟨rfl, -, -⟩ := hq
      have HRow : Hid (∀ j u, (bv x)[j]? = some u → (wA.alloc (.cells #[] 4)).cell? ((⟨q, 0, none⟩ : Addr).add j) = some u) := fun j u hj => by
        have hjl : j < x.length := by
          rcases Nat.lt_or_ge j x.length with h | h
          · exact h
          · rw [List.getElem?_eq_none (by rw [bv_len]; exact h)] at hj; cases hj
        have hadd : (⟨q, 0, none⟩ : Addr).add j = ⟨q, j, none⟩ := by unfold Addr.add; split <;> simp_all
        rw [hadd]
        exact cell_alloc ((hrow.cellAt j (by omega)).trans hj)
      obtain ⟨vs, q1, q2, q3, q4, q5, q6⟩ := hA
      have Q1 := Lib.hid q1
      have Q2 := Lib.hid q2
      have Q3 := Lib.hid q3
      have Q4 := Lib.hid q4
      have Q5 := Lib.hid q5
      have Q6 := Lib.hid q6
      have HF' := Lib.hid hF'
      have HB := Lib.hid hB
      have HTk := Lib.hid htk
      have hk0 : (0 : Int) ≤ (Rk.length : Int) := by omega
      have hk1 : (Rk.length : Int) < (R.length : Int) := by omega
      have HO0 := Lib.hid (World.ownsRow_made (base := wA.heap.size) (e := 4) (size := 1) wA #[] 0 (Nat.le_refl _) (by decide) rfl)
      have HM : Hid (0 + x.length ≤ maxLen ∧ (0 + x.length) * 1 ≤ 140737488355328 ∧ Rk.length + 1 ≤ maxLen ∧ (Rk.length + 1) * 24 ≤ 140737488355328) := by
        show _ ∧ _
        unfold maxLen; omega
      have HX := Lib.hid hl1
      have hcell2 := cell_alloc (o := .cells #[] 4) hcell
      clear q1 q2 q3 q4 q5 q6 hF' hB htk hrow hl1 hl2
      go_wp2_with (first | (at_builtin; go_loud (refine wpList_append_lies (wA.alloc (.cells #[] 4)) rfl _ _ 55 rfl wA.heap.size 4 i0 (.bool false) 1 1 Tryd.underlying55 hi hz0 hz1 hz2 rfl (by decide) _ 0 [] rfl HO0.out ⟨q, 0, none⟩ x.length cc (bv x) rfl (by rw [bv_len, Nat.mul_one]) HRow.out (bv_one x) HX.out HM.out.1 HM.out.2.1 (by simp) (wA.heap.size + 1) (by simp) ?_)) | fail)
      intro g1 c1 w1 hown1 hgrow1 hat1 hg1
      have hB1 : Below wA.heap.size wA w1 := ((Below.refl _ _).alloc (Nat.le_refl _) _).grown hgrow1 (by simp) (fun k hk => by cases hk; exact Nat.le_refl _)
      have HO1 := Lib.hid hown1
      have HB1 := Lib.hid hB1
      have HVs1 := Lib.hid (owns_of_heap Q1.out fun x hx => hB1.block x (owns_lt Q1.out x hx))
      have HN1 : Hid (∀ j u, [Value.slice (some ⟨g1, 0, none⟩) x.length c1][j]? = some u → (w1.alloc (.cells #[.slice (some ⟨g1, 0, none⟩) x.length c1] 55)).cell? ((⟨w1.heap.size, 0, none⟩ : Addr).add j) = some u) := World.news_of_block (heap_new _ _)
      have HOne := Lib.hid (slice_one (.slice (some ⟨g1, 0, none⟩) x.length c1) ⟨_, _, _, rfl⟩)
      clear hown1 hgrow1 hat1 hg1 hB1
      go_wp2_with (first | (at_builtin; go_loud (refine wpList_append_lies _ rfl _ _ 51 rfl 0 55 i1 (.slice none 0 0) 1 24 Tryd.underlying51 hi' hz0' hz1' hz2' rfl (by decide) vA Rk.length vs rfl (HVs1.out.alloc _) ⟨w1.heap.size, 0, none⟩ 1 1 [_] rfl rfl HN1.out HOne.out (by decide) HM.out.2.2.1 HM.out.2.2.2 (Nat.zero_le _) (w1.heap.size + 1) (by simp) ?_)) | fail)
      intro g5 c5 w3 hown3 hgrow hat hg3
      have HP := Lib.hid (RowsAt.push Q1.out Q2.out Q3.out Q5.out Q6.out HB1.out HO1.out _ hgrow (hat.imp id (fun h => by simp; omega)) hg3 hown3)
      have hz0w := HB.out.size
      have hz1w := HB1.out.size
      have HVb : Hid (∀ q, vA.ownBlock = some q → w.heap.size ≤ q) := fun q hq => HF'.out q (Q4.out q hq)
      have hBn : Below w.heap.size w w3 := ((HB.out.trans (HB1.out.mono hz0w)).alloc (by omega) _).grown hgrow (by simp; omega) HVb.out
      have HBn := Lib.hid hBn
      have HFn : Hid (∀ q ∈ g5 :: (ownL (.slice (some ⟨g1, 0, none⟩) x.length c1) ++ F'), w.heap.size ≤ q) := by
        intro q hq
        simp only [List.mem_cons, List.mem_append] at hq
        rcases hq with rfl | hq | hq
        · rcases hat with h | h
          · exact HVb.out _ h
          · omega
        · have := (World.ownsRow.lt HO1.out q (mem_ownL.1 hq)).1; omega
        · exact HF'.out q hq
      clear hown3 hgrow hat hg3 hBn
      go_wp2_with fail
      go_roundw
      case rel => exact ⟨Rk.length + 1, _, by omega, by go_num, by rw [HTk.out]; exact HP.out, HFn.out, HBn.out⟩
      case measure => simp [intOf]; omega
    · obtain rfl : k = R.length := by omega
      rw [List.take_length] at hA
      have HA := Lib.hid hA
      have HF' := Lib.hid hF'
      have HB := Lib.hid hB
      clear hA hF' hB
      go_wp2_with fail
      go_ret
      exact ⟨_, F', rfl, HA.out, HF'.out, HB.out⟩
end Go.Proofs.YtifjjcenmilohaaDoor
