/- The chapter's example works; DomainNone returns true for every input. Condition: where the table lies. -/
import Derived.Test.YtifjjcenmilohaaDoorDomF
namespace Go.Proofs.YtifjjcenmilohaaDoor
open Go.RowKit

def YesEnds (w : World) (e : Ending) (w' : World) : Prop := e = .returned (.bool true) ∧ Below w.heap.size w w'
theorem src_one (w : World) (n : Int) (t : TypeId) : Src (w.alloc (.cells #[.int .i64 n] t)) (some ⟨w.heap.size, 0, none⟩) 1 1 1 (intl [n]) := by
  refine ⟨rfl, (fun h => by cases h), Nat.le_refl _, by unfold maxLen; omega, fun ad had => ?_, one_cell _ _⟩
  cases had
  exact one_new w n t

theorem wd1 : szB [2] = true := by decide
theorem wd2 : szN [2] = [2] := by decide
theorem wd3 : actC [2] 0 0 (dropM (([3] : List Nat).getD (0 : Int).toNat 0) (0 : Int).toNat) = 0 := by decide
theorem wd4 : (dropM (([3] : List Nat).getD (0 : Int).toNat 0) (0 : Int).toNat) = 2 := by decide
theorem wd5 : leftL [2] [2] 0 = [1] := by decide
theorem wd6 : openL [2] [2] = [] := by decide

/-- What Drop and Only leave is a domain still. -/
theorem dok_act {sz X : List Nat} {T : TM} (h : DOk sz X T) (v k : Int) (x : Nat) (hx : mayC sz v k = 0 → x ≤ full (sz.getD v.toNat 0)) : DOk sz (actX sz X v k x) (actT sz T v k x) := by
  unfold actX actT
  by_cases hc : mayC sz v k = 0 ∧ x ≠ 0
  · rw [if_pos hc, if_pos hc]
    obtain ⟨⟨hv0, hv1⟩, -⟩ := mayC_yes hc.1
    obtain ⟨i, rfl⟩ := Int.eq_ofNat_of_zero_le hv0
    rw [Int.toNat_natCast] at hx ⊢
    have hi : i < sz.length := by omega
    have hx' := hx hc.1
    refine ⟨fun j hj => ?_, fun j hj => ?_, by simp [setT, TM.set, h.cl], by simp [h.xl]⟩
    · have hr := h.rng j hj
      by_cases e : j = i
      · subst e
        have e2 : (X.set j x).getD j 0 = x := by simp [h.xl, hj]
        rw [e2]
        exact ⟨hr.1, by omega, hx'⟩
      · have e2 : (X.set i x).getD j 0 = X.getD j 0 := by rw [List.getD_eq_getElem?_getD, List.getD_eq_getElem?_getD, List.getElem?_set_ne (Ne.symm e)]
        rw [e2]; exact hr
    · by_cases e : j = i
      · subst e
        have e2 : (X.set j x).getD j 0 = x := by simp [h.xl, hj]
        rw [e2]
        simp [setT, TM.set, h.cl, hj]
      · have e2 : (X.set i x).getD j 0 = X.getD j 0 := by rw [List.getD_eq_getElem?_getD, List.getD_eq_getElem?_getD, List.getElem?_set_ne (Ne.symm e)]
        have e3 : (setT sz T i x).cells.getD j 0 = T.cells.getD j 0 := by
          show (T.cells.set i _).getD j 0 = _
          rw [List.getD_eq_getElem?_getD, List.getElem?_set_ne (Ne.symm e), ← List.getD_eq_getElem?_getD]
        rw [e2, e3]; exact h.cel j hj
  · rw [if_neg hc, if_neg hc]; exact h
theorem ok_act {sz : List Nat} {T : TM} {N : Nat} (h : T.ok N) (hl : T.cells.length = sz.length) (v k : Int) (x : Nat) : (actT sz T v k x).ok (N + 1) := by
  unfold actT
  by_cases hc : mayC sz v k = 0 ∧ x ≠ 0
  · rw [if_pos hc]
    obtain ⟨⟨hv0, hv1⟩, -⟩ := mayC_yes hc.1
    have := ok_set h v (andN (full (sz.getD v.toNat 0)) x : Nat)
    unfold setF at this
    rw [if_pos (TM.has_yes hv0 (by omega))] at this
    exact this
  · rw [if_neg hc]
    exact ⟨h.ml, h.mc, h.ms, h.cc, Nat.le_succ_of_le h.cl⟩
theorem drop_le {sz X : List Nat} {T : TM} (h : DOk sz X T) {v k : Int} (hm : mayC sz v k = 0) : dropM (X.getD v.toNat 0) k.toNat ≤ full (sz.getD v.toNat 0) := by
  obtain ⟨⟨hv0, hv1⟩, -⟩ := mayC_yes hm
  exact Nat.le_trans (dropM_le _ _) (h.rng v.toNat (by omega)).2.2
theorem only_le {sz X : List Nat} {T : TM} (h : DOk sz X T) {v k : Int} (hm : mayC sz v k = 0) : onlyM (X.getD v.toNat 0) k.toNat ≤ full (sz.getD v.toNat 0) := by
  obtain ⟨⟨hv0, hv1⟩, -⟩ := mayC_yes hm
  exact Nat.le_trans (onlyM_le _ _) (h.rng v.toNat (by omega)).2.2

/-- What a call that may change a domain leaves, all of it new. -/
theorem dends_new {w0 w w' : World} {d : Nat} {F sz : List Nat} {v : Value} {T : TM} {e : Ending} (hB : Below w0.heap.size w0 w) (hF : ∀ k ∈ F, w0.heap.size ≤ k) (h : DEnds d F v sz T w e w') :
    e = .returned v ∧ ∃ F', DomAt w' d F' sz T ∧ (∀ k ∈ F', w0.heap.size ≤ k) ∧ Below w0.heap.size w0 w' := by
  obtain ⟨h1, F', q1, q2, q3⟩ := h
  have hz := hB.size
  refine ⟨h1, F', q1, fun k hk => ?_, hB.trans (q3.below hz fun j hj hjF => by have := hF j hjF; omega)⟩
  rcases q2 k hk with h | h
  · exact hF k h
  · omega

theorem dworks_any (w : World) (hT : TabIs w) : Calls Tryd.prog 9 #[] w (YesEnds w) := by
  have HN := Lib.hid (dnew_any (some ⟨w.heap.size, 0, none⟩) 1 1 [2] _ (src_one w 2 3))
  have HT := Lib.hid hT
  clear hT
  go_enter Tryd.func9, Tryd.ntmps9
  go_wp2_with fail
  go_fit HN.out
  rintro e wa (⟨-, d, F, rfl, hD, hF, hB⟩ | ⟨h, -⟩)
  case inr => rw [wd1] at h; cases h
  have hok := dok_new wd1
  rw [wd2] at hD hok
  have hB1 : Below w.heap.size w wa := ((Below.refl _ w).alloc (Nat.le_refl _) (.cells #[.int .i64 2] 3)).trans (hB.mono (by simp))
  have hF1 : ∀ k ∈ F, w.heap.size ≤ k := fun k hk => by have := hF k hk; simp at this; omega
  have hX : ([2] : List Nat).map full = [3] := by decide
  rw [hX] at hok
  have hDr := ddrop_any d F [2] [3] (newT [2]) 0 0 0 wa hD hok (ok_newT _ 0) (by decide)
  rw [wd3, wd4] at hDr
  have hok2 := dok_act hok 0 0 2 (fun _ => by decide)
  rw [show actX [2] [3] 0 0 2 = [2] from by decide] at hok2
  generalize actT [2] (newT [2]) 0 0 2 = T2 at *
  have HDr := Lib.hid hDr
  have HOk := Lib.hid hok2
  have HB1 := Lib.hid hB1
  have HF1 := Lib.hid hF1
  clear hD hB hF hok hok2 hB1 hF1 hX hDr
  go_wp2_with fail
  go_fit HDr.out
  intro e wb he
  obtain ⟨rfl, F2, hD2, hF2, hB2⟩ := dends_new HB1.out HF1.out he
  have hFx := dfixed_any d F2 [2] [2] T2 0 wb hD2 HOk.out (tab_below HT.out hB2 (Nat.le_refl _))
  rw [wd5] at hFx
  unfold FixEnds fixV at hFx
  rw [if_pos (show ([1] : List Nat).length = 1 from rfl), show (([1] : List Nat).getD 0 0) = 1 from rfl] at hFx
  have HFx := Lib.hid hFx
  have HD2 := Lib.hid hD2
  have HB2 := Lib.hid hB2
  clear he hD2 hF2 hB2 hFx
  go_wp2_with fail
  go_fit HFx.out
  rintro e wc ⟨rfl, hB3⟩
  have hB3' := HB2.out.trans (hB3.mono HB2.out.size)
  have hOp := dopen_any d F2 [2] [2] T2 wc (HD2.out.below hB3 (Nat.le_refl _)) HOk.out (tab_below HT.out hB3' (Nat.le_refl _)) (by decide)
  rw [wd6] at hOp
  unfold ListEnds at hOp
  have HOp := Lib.hid hOp
  have HB3 := Lib.hid hB3'
  clear hB3 hB3' hOp
  go_wp2_with fail
  go_fit HOp.out
  rintro e wd ⟨v, rfl, hown, hB4⟩
  obtain ⟨ad, c, rfl⟩ := slice_form hown
  have HB4 := Lib.hid (HB3.out.trans (hB4.mono HB3.out.size))
  clear hown hB4
  go_wp2_with fail
  go_ret
  exact ⟨rfl, HB4.out⟩

set_option maxRecDepth 20000 in
set_option maxHeartbeats 1000000 in
theorem dnone_walk (v k : Int) (w : World) (_hv : (Lit.int .i64 v).wf = true) (_hk : (Lit.int .i64 k).wf = true) (hT : TabIs w) :
    Calls Tryd.prog 5 #[.int .i64 v, .int .i64 k] w (YesEnds w) := by
  have HT := Lib.hid hT
  clear hT _hv _hk
  go_enter Tryd.func5, Tryd.ntmps5
  obtain ⟨w1, hw1⟩ : ∃ w1, w1 = w.alloc (.cells #[.pointer none, .slice none 0 0] 47) := ⟨_, rfl⟩
  have hn : NoDom w1 none := .inl rfl
  have he : NoDom w1 (some ⟨w.heap.size, 0, none⟩) := .inr ⟨_, rfl, by rw [hw1]; exact cell_at 0 (heap_new _ _) rfl, by rw [hw1]; exact cell_at 1 (heap_new _ _) rfl⟩
  have hB : Below w.heap.size w w1 := by rw [hw1]; exact (Below.refl _ w).alloc (Nat.le_refl _) _
  have H1 := Lib.hid (dfixed_none none v w1 hn)
  have H2 := Lib.hid (dfixed_none _ v w1 he)
  have H3 := Lib.hid (ddrop_none none v k w1 hn)
  have H4 := Lib.hid (ddrop_none _ v k w1 he)
  have H5 := Lib.hid (donly_none none v k w1 hn)
  have H6 := Lib.hid (donly_none _ v k w1 he)
  have H7 := Lib.hid (dbegin_none none w1 hn)
  have H8 := Lib.hid (dbegin_none _ w1 he)
  have H9 := Lib.hid (dundo_none none w1 hn)
  have H10 := Lib.hid (dundo_none _ w1 he)
  have H11 := Lib.hid (dleft_none none v w1 hn)
  have H12 := Lib.hid (dleft_none _ v w1 he)
  have H13 := Lib.hid (dopen_none none w1 hn)
  have H14 := Lib.hid (dopen_none _ w1 he)
  have HW := Lib.hid (dworks_any w1 (tab_below HT.out hB (Nat.le_refl _)))
  have HB := Lib.hid hB
  have HE := Lib.hid hw1
  clear hn he hB hw1
  go_wp2_with fail
  rw [← HE.out]
  go_fit H1.out
  rintro e w' ⟨rfl, rfl⟩
  go_wp2_with fail
  go_fit H2.out
  rintro e w' ⟨rfl, rfl⟩
  go_wp2_with fail
  go_fit H3.out
  rintro e w' ⟨rfl, rfl⟩
  go_wp2_with fail
  go_fit H4.out
  rintro e w' ⟨rfl, rfl⟩
  go_wp2_with fail
  go_fit H5.out
  rintro e w' ⟨rfl, rfl⟩
  go_wp2_with fail
  go_fit H6.out
  rintro e w' ⟨rfl, rfl⟩
  go_wp2_with fail
  go_fit H7.out
  rintro e w' ⟨rfl, rfl⟩
  go_wp2_with fail
  go_fit H8.out
  rintro e w' ⟨rfl, rfl⟩
  go_wp2_with fail
  go_fit H9.out
  rintro e w' ⟨rfl, rfl⟩
  go_wp2_with fail
  go_fit H10.out
  rintro e w' ⟨rfl, rfl⟩
  go_wp2_with fail
  go_fit H11.out
  rintro e w' ⟨rfl, rfl⟩
  go_wp2_with fail
  go_fit H12.out
  rintro e w' ⟨rfl, rfl⟩
  go_wp2_with fail
  go_fit H13.out
  rintro e w' ⟨rfl, rfl⟩
  go_wp2_with fail
  go_fit H14.out
  rintro e w' ⟨rfl, rfl⟩
  go_wp2_with fail
  go_fit HW.out
  rintro e w3 ⟨rfl, hB4⟩
  have HB4 := Lib.hid (HB.out.trans (hB4.mono HB.out.size))
  clear hB4
  go_wp2_with fail
  go_ret
  exact ⟨rfl, HB4.out⟩
end Go.Proofs.YtifjjcenmilohaaDoor
