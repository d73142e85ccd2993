/- The contract of a ring's walk: the least ring from a node. Conditions: a graph, its distances; where the table lies. -/
import Derived.Test.YtafdijcolponjaaDoorRingE
import Derived.BigQuiet
namespace Go.Proofs.YtafdijcolponjaaDoor
open Go.RowKit

theorem wstep_any (bt pd bl g n a t k : Nat) (d : List Int) (w : World) (hn : n ≤ 500) (ha : a < n) (ct : w.cell? ⟨bt, 0, none⟩ = some (.int .i64 t)) (cd : w.cell? ⟨pd, 0, none⟩ = some (.slice (some ⟨g, 0, none⟩) n n)) (cl : w.cell? ⟨bl, 0, none⟩ = some (.int .i64 k)) (hd : IntRow w g n d) :
    Calls Tryd.prog 113 #[.int .i64 a, .pointer (some ⟨bt, 0, none⟩), .pointer (some ⟨pd, 0, none⟩), .pointer (some ⟨bl, 0, none⟩)] w (AskEnds w (decide (t < a) && decide (d.getD a 0 = (k : Int)))) := by
  have c0 := hd.cell ha
  have ha0 : (0 : Int) ≤ (a : Int) := by omega
  have ha1 : (a : Int) < (n : Int) := by omega
  generalize d.getD a 0 = x at *
  clear hd
  have hS : Below w.heap.size w w := Below.refl _ _
  by_cases h : t < a
  · have h1 : decide ((t : Int) < (a : Int)) = true := decide_eq_true (by omega)
    rw [decide_eq_true h, Bool.true_and]
    by_cases hx : x = (k : Int)
    · rw [decide_eq_true hx]
      subst hx
      go_enter Tryd.func113, Tryd.ntmps113
      go_wp2_with fail
      go_quiet (fail)
      go_wp2_with fail
      go_ret
      exact ⟨rfl, ⟨rfl, rfl, rfl, Nat.le_refl _, fun _ _ => rfl⟩⟩
    · rw [decide_eq_false hx]
      have hxb : (x == (k : Int)) = false := by rw [beq_eq_false_iff_ne]; exact hx
      go_enter Tryd.func113, Tryd.ntmps113
      go_wp2_with fail
      go_quiet (fail)
      go_wp2_with fail
      go_ret
      exact ⟨rfl, ⟨rfl, rfl, rfl, Nat.le_refl _, fun _ _ => rfl⟩⟩
  · have h1 : decide ((t : Int) < (a : Int)) = false := decide_eq_false (by omega)
    rw [decide_eq_false h, Bool.false_and]
    go_enter Tryd.func113, Tryd.ntmps113
    go_wp2_with fail
    go_quiet (fail)
    go_wp2_with fail
    go_ret
    exact ⟨rfl, ⟨rfl, rfl, rfl, Nat.le_refl _, fun _ _ => rfl⟩⟩
theorem find_first {l : List Nat} {p : Nat → Bool} {k : Nat} (hk : k < l.length) (h1 : p (l.getD k 0) = true) (h2 : ∀ j, j < k → p (l.getD j 0) = false) : l.find? p = some (l.getD k 0) := by
  rw [List.find?_eq_some_iff_append]
  refine ⟨h1, l.take k, l.drop (k + 1), ?_, fun x hx => ?_⟩
  · have e : l.getD k 0 = l[k] := by simp [List.getD, hk]
    rw [e, List.getElem_cons_drop, List.take_append_drop]
  · obtain ⟨i, hi, rfl⟩ := List.mem_iff_getElem.1 hx
    rw [List.length_take] at hi
    have := h2 i (by omega)
    simp only [List.getD, show i < l.length by omega, List.getElem?_eq_getElem, Option.getD_some] at this
    simp [this]
theorem find_next (n : Nat) (L : List (Nat × Nat)) (t x k : Nat) (d : List Int) : (nextR n L (x : Int)).find? (fun b => decide (t < b) && decide (d.getD b 0 = (k : Int))) = (List.range n).find? (stepB L t d k x) := by
  unfold nextR
  rw [List.find?_filter]
  congr 1
  funext b
  unfold stepB
  rw [hasR_nat, Bool.eq_iff_iff]
  simp only [Bool.and_eq_true, decide_eq_true_iff]
def RWalkRel (w w4 : World) (n t : Nat) (L : List (Nat × Nat)) (d : List Int) (K : Nat) (lv av pv : Value) (wr : World) : Prop :=
  ∃ (j x : Nat) (pre : List Nat) (q : Nat), av = .int .i64 x ∧ pv = .pointer (some ⟨q, 0, none⟩) ∧ wr.heap[q]? = some (.cells #[.int .i64 j] 3 (0, 0)) ∧ w.heap.size + 2 ≤ q ∧ x < n ∧ t ≤ x ∧ d.getD x 0 = ((j + 1 : Nat) : Int) ∧ pre ++ walkF n L t d j x = t :: walkF n L t d K t ∧ pre.length + j = K + 1 ∧
    wr.ownsRow (w.heap.size + 2) 3 1 lv pre.length (intl (natI pre)) ∧ (∀ p, lv.ownBlock = some p → p ≠ q) ∧ Below (w.heap.size + 2) w4 wr

set_option maxRecDepth 20000 in
set_option maxHeartbeats 4000000 in
theorem rwalk_any (b n t K g : Nat) (F : List Nat) (L : List (Nat × Nat)) (d : List Int) (w : World) (h : GrAt w b F n L) (ht : t < n) (hd : DistIs n L t d) (hK : d.getD t 0 = ((K + 1 : Nat) : Int)) (hr : IntRow w g n d) (hT : TabIs w) :
    Calls Tryd.prog 104 #[.pointer (some ⟨b, 0, none⟩), .slice (some ⟨g, 0, none⟩) n n, .int .i64 t] w (ListEnds (t :: walkF n L t d K t) w) := by
  obtain ⟨i0, hi, hz0, hz1, hz2⟩ := info_parts infoInt
  have hn := h.n500
  have HL := Lib.hid h.inr
  have hKn := walkF_all h.inr hd ht hK
  have HG := Lib.hid h
  have HT := Lib.hid hT
  have HD := Lib.hid hd
  have HR := Lib.hid hr
  have hgl := hr.lt
  have hctK := hr.cell ht
  rw [hK] at hctK
  have ht0 : (0 : Int) ≤ (t : Int) := by omega
  have ht1 : (t : Int) < (n : Int) := by omega
  have hpc : ((K + 1 : Nat) : Int) = (K : Int) + 1 := by omega
  rw [hpc] at hctK
  have HK := Lib.hid hK
  clear h hT hd hr hpc hK
  obtain ⟨w1, hw1⟩ : ∃ x, w.alloc (.cells #[.slice (some ⟨g, 0, none⟩) n n] 22) = x := ⟨_, rfl⟩
  obtain ⟨w2, hw2⟩ : ∃ x, w1.alloc (.cells #[.int .i64 (t : Int)] 3) = x := ⟨_, rfl⟩
  obtain ⟨w3, hw3⟩ : ∃ x, w2.alloc (.cells #[.int .i64 (t : Int)] 3) = x := ⟨_, rfl⟩
  obtain ⟨w4, hw4⟩ : ∃ x, w3.alloc (.cells #[.int .i64 (K : Int)] 3) = x := ⟨_, rfl⟩
  have hz1' : w1.heap.size = w.heap.size + 1 := by rw [← hw1]; simp
  have hz2' : w2.heap.size = w.heap.size + 2 := by rw [← hw2]; simp; omega
  have hz3' : w3.heap.size = w.heap.size + 3 := by rw [← hw3]; simp; omega
  have hB1 : Below w.heap.size w w1 := by rw [← hw1]; exact (Below.refl _ _).alloc (Nat.le_refl _) _
  have hB2 : Below w1.heap.size w1 w2 := by rw [← hw2]; exact (Below.refl _ _).alloc (Nat.le_refl _) _
  have hB3 : Below w2.heap.size w2 w3 := by rw [← hw3]; exact (Below.refl _ _).alloc (Nat.le_refl _) _
  have hB4 : Below w3.heap.size w3 w4 := by rw [← hw4]; exact (Below.refl _ _).alloc (Nat.le_refl _) _
  have cd1 : w1.cell? ⟨w.heap.size, 0, none⟩ = some (.slice (some ⟨g, 0, none⟩) n n) := by rw [← hw1]; exact cell_at 0 (heap_new _ _) rfl
  have ct2 : w2.cell? ⟨w.heap.size + 1, 0, none⟩ = some (.int .i64 t) := by rw [← hw2, ← hz1']; exact cell_at 0 (heap_new _ _) rfl
  have cd3 := (hB3.cell (p := ⟨w.heap.size, 0, none⟩) (by show w.heap.size < _; omega)).trans ((hB2.cell (p := ⟨w.heap.size, 0, none⟩) (by show w.heap.size < _; omega)).trans cd1)
  have ct3 := (hB3.cell (p := ⟨w.heap.size + 1, 0, none⟩) (by show w.heap.size + 1 < _; omega)).trans ct2
  have hr3 := ((HR.out.below hB1 hgl).below hB2 (by omega)).below hB3 (by omega)
  have cg3 : w3.cell? ⟨g, t, none⟩ = some (.int .i64 ((K : Int) + 1)) := by
    rw [← hctK]
    exact World.cell?_of_block ((hB3.block g (by omega)).trans ((hB2.block g (by omega)).trans (hB1.block g hgl)))
  have hwt : w3.ownsRow 0 3 1 (.slice (some ⟨w.heap.size + 2, 0, none⟩) 1 1) 1 (intl (natI [t])) := by
    rw [← hw3, ← hz2']; exact owns_of_block (Nat.zero_le _) (by decide) rfl (heap_new _ _)
  have hbl : w4.heap[w.heap.size + 3]? = some (.cells #[.int .i64 (K : Int)] 3 (0, 0)) := by rw [← hw4, ← hz3']; exact heap_new _ _
  have HCd := Lib.hid ((hB4.cell (p := ⟨w.heap.size, 0, none⟩) (by show w.heap.size < _; omega)).trans cd3)
  have HCt := Lib.hid ((hB4.cell (p := ⟨w.heap.size + 1, 0, none⟩) (by show w.heap.size + 1 < _; omega)).trans ct3)
  have HR4 := Lib.hid (hr3.below hB4 (by omega))
  have HWt := Lib.hid (owns_of_heap hwt (w' := w4) fun q hq => hB4.block q (owns_lt hwt q hq))
  have HBl := Lib.hid hbl
  have HB4 := Lib.hid ((((hB1.trans (hB2.mono (by omega))).trans (hB3.mono (by omega)))).trans (hB4.mono (by omega)))
  have hz4 : w.heap.size + 4 ≤ w4.heap.size := by rw [← hw4]; simp; omega
  clear hB1 hB2 hB3 hB4 cd1 hr3 hwt hbl hctK
  go_enter Tryd.func104, Tryd.ntmps104
  go_wp2_with fail
  clear ct2 ct3 cd3 cg3 hw1 hw2 hw3 hw4 hz1' hz2' hz3'
  go_loopw [7, 8, 9] (fun lv av pv wr => RWalkRel w w4 n t L d K lv av pv wr) (fun lv _ _ _ => K + 1 - sliceLen lv)
  case atStart => exact ⟨K, t, [t], _, rfl, rfl, HBl.out, by omega, ht, Nat.le_refl _, HK.out, rfl, by simp; omega, owns_base HWt.out (fun q hq => by cases hq; exact Nat.le_refl _), fun q hq => by cases hq; show w.heap.size + 2 ≠ w.heap.size + 3; omega, Below.refl _ _⟩
  case round =>
    obtain ⟨j, x, pre, q, rfl, rfl, hbl, hqw, hxn, htx, hdx, hpre, hlen, hown, hne, hB⟩ := hrel
    obtain ⟨wa, rfl⟩ : ∃ y, y = wr := ⟨_, rfl⟩
    obtain ⟨al, cl0, rfl⟩ := owns_slice hown
    have hql := lt_of_block hbl
    have cl : wa.cell? ⟨q, 0, none⟩ = some (.int .i64 j) := cell_at 0 hbl rfl
    have HOw := Lib.hid hown
    have HNe := Lib.hid hne
    have HBa := Lib.hid hB
    have HPre := Lib.hid hpre
    have HBl2 := Lib.hid hbl
    have hza := hB.size
    have ct : wa.cell? ⟨w.heap.size + 1, 0, none⟩ = some (.int .i64 t) := (hB.cell (p := ⟨w.heap.size + 1, 0, none⟩) (by show w.heap.size + 1 < _; omega)).trans HCt.out
    have cd : wa.cell? ⟨w.heap.size, 0, none⟩ = some (.slice (some ⟨g, 0, none⟩) n n) := (hB.cell (p := ⟨w.heap.size, 0, none⟩) (by show w.heap.size < _; omega)).trans HCd.out
    have hra := HR4.out.below hB (by omega)
    have hBw : Below w.heap.size w wa := HB4.out.trans (hB.mono (by omega))
    by_cases hj : j = 0
    · subst hj
      have hpe : pre = t :: walkF n L t d K t := by have h := hpre; simp only [walkF, List.append_nil] at h; exact h
      have HPe := Lib.hid hpe
      have HBw := Lib.hid hBw
      clear hbl hown hne hB hpre hpe hra hBw ct cd
      go_wp2_with fail
      go_ret
      refine ⟨_, rfl, ?_, HBw.out⟩
      rw [← HPe.out]
      exact owns_base HOw.out fun p hp => by have := (World.ownsRow.lt HOw.out p hp).1; omega
    · obtain ⟨i, rfl⟩ : ∃ i, j = i + 1 := ⟨j - 1, by omega⟩
      obtain ⟨y, hy⟩ := step_some HL.out HD.out hxn htx hdx
      obtain ⟨hyn, -, hty, hdy⟩ := step_at hy
      have hwf : walkF n L t d (i + 1) x = y :: walkF n L t d i y := by rw [walkF, hy]
      rw [hwf] at hpre
      have hpre2 : (pre ++ [y]) ++ walkF n L t d i y = t :: walkF n L t d K t := by rw [List.append_assoc]; exact hpre
      have hfn := find_next n L t x (i + 1) d
      rw [hy] at hfn
      have HNx := gr_next b n F L (x : Nat) wa (HG.out.below hBw (Nat.le_refl _)) (tab_below HT.out hBw (Nat.le_refl _))
      have hLl : ∀ z ∈ nextR n L (x : Int), z < n := fun z hz => nextR_lt hz
      have hlen := nextR_len n L (x : Int)
      generalize nextR n L (x : Int) = l at *
      have HNx := Lib.hid HNx
      have HLl := Lib.hid hLl
      have HFn := Lib.hid hfn
      have HPr2 := Lib.hid hpre2
      have HBw := Lib.hid hBw
      have HBb := Lib.hid hB
      have HRa := Lib.hid hra
      have HCta := Lib.hid ct
      have HCda := Lib.hid cd
      have hc1 : ((i + 1 : Nat) : Int) = (i : Int) + 1 := by omega
      have hi0 : (0 : Int) < (i : Int) + 1 := by omega
      have hgw : g < wa.heap.size := by omega
      rw [hc1] at cl
      have HDy := Lib.hid hdy
      clear hbl hown hne hB hpre hpre2 hra hBw ct cd hfn hLl hwf hy hdy
      go_wp2_with fail
      go_fit HNx.out
      rintro e w8 ⟨v8, rfl, hO8, hB8⟩
      obtain ⟨ad8, c8, rfl, hs8⟩ := src_list hO8
      have ct8 := (hB8.cell (p := ⟨w.heap.size + 1, 0, none⟩) (by show w.heap.size + 1 < _; omega)).trans HCta.out
      have cd8 := (hB8.cell (p := ⟨w.heap.size, 0, none⟩) (by show w.heap.size < _; omega)).trans HCda.out
      have cl8 := (hB8.cell (p := ⟨q, 0, none⟩) (by show q < _; omega)).trans cl
      have hr8 := HRa.out.below hB8 hgw
      have hz8 := hB8.size
      have hIx := indexI_any 113 #[.pointer (some ⟨w.heap.size + 1, 0, none⟩), .pointer (some ⟨w.heap.size, 0, none⟩), .pointer (some ⟨q, 0, none⟩)] (fun k => decide (t < l.getD k 0) && decide (d.getD (l.getD k 0) 0 = ((i + 1 : Nat) : Int))) (enters_of Tryd.func113 (by kernel_rfl) rfl) ad8 l.length c8 (natI l) w8 hs8 fun W k hk hW => by
        rw [natI_at]
        refine (wstep_any (w.heap.size + 1) w.heap.size q g n (l.getD k 0) t (i + 1) d W hn (HLl.out _ (by simp [List.getD, hk])) ((hW.cell (p := ⟨w.heap.size + 1, 0, none⟩) (by show w.heap.size + 1 < _; omega)).trans ct8) ((hW.cell (p := ⟨w.heap.size, 0, none⟩) (by show w.heap.size < _; omega)).trans cd8) ((hW.cell (p := ⟨q, 0, none⟩) (by show q < _; omega)).trans (by rw [hc1]; exact cl8)) (hr8.below hW (by omega))).mono ?_
        rintro e w' ⟨he, hb⟩
        exact ⟨he, hW.trans (hb.mono hW.size)⟩
      have HIx := Lib.hid hIx
      have HS8 := Lib.hid hs8
      have HB8 := Lib.hid hB8
      have HOw8 := Lib.hid (owns_of_heap HOw.out (w' := w8) fun p hp => hB8.block p (owns_lt HOw.out p hp))
      have HC8 := Lib.hid cl8
      have HBb8 := Lib.hid (HBb.out.trans (hB8.mono (by omega)))
      clear hO8 hs8 hr8 hIx cl8 ct8 cd8 hB8 cl
      go_wp2_with fail
      go_fit HIx.out
      rintro e w9 ⟨hB9, (⟨k, hk, hpk, hall, rfl⟩ | ⟨hall, rfl⟩)⟩
      · have hfk := find_first (l := l) (p := fun b => decide (t < b) && decide (d.getD b 0 = ((i + 1 : Nat) : Int))) hk hpk hall
        rw [HFn.out] at hfk
        have hyk : y = l.getD k 0 := Option.some.inj hfk
        have hs9 := HS8.out.belowAll hB9 (Nat.le_refl _)
        obtain ⟨b9, o9, rfl, hc9⟩ := hs9.plain (by omega)
        have z9 := hc9 k hk
        rw [natI_at, ← hyk] at z9
        have cl9 := (hB9.cell (p := ⟨q, 0, none⟩) (by show q < _; omega)).trans HC8.out
        have hOw9 := owns_of_heap HOw8.out (w' := w9) fun p hp => hB9.block p (owns_lt HOw8.out p hp)
        have hk0 : (0 : Int) ≤ (k : Int) := by omega
        have hk1 : (k : Int) < (l.length : Int) := by omega
        have HOw9 := Lib.hid hOw9
        have HBb9 := Lib.hid (HBb8.out.trans (hB9.mono (by omega)))
        have hz9 := hB9.size
        have hql9 : q < w9.heap.size := by omega
        clear hpk hall hfk hyk hs9 hc9 hOw9 hB9
        have hpl : pre.length ≤ n := by omega
        have HM : Hid (pre.length + 1 ≤ maxLen ∧ (pre.length + 1) * 8 ≤ 140737488355328) := by
          show _ ∧ _
          unfold maxLen; omega
        have HNew := Lib.hid (one_new w9 (y : Int) 3)
        have HBs : Hid (w.heap.size + 2 ≤ w9.heap.size) := by show _ ≤ _; omega
        go_wp2_with (first | (at_builtin; go_loud (refine wpList_append_lies _ rfl _ _ 22 rfl (w.heap.size + 2) 3 i0 (.int .i64 0) 1 8 Tryd.underlying22 hi hz0 hz1 hz2 rfl (by decide) (.slice al pre.length cl0) pre.length (intl (natI pre)) rfl (HOw9.out.alloc _) ⟨w9.heap.size, 0, none⟩ 1 1 [_] rfl rfl HNew.out (one_cell _ _) (by decide) HM.out.1 HM.out.2 (by simp; have := HBs.out; omega) (w9.heap.size + 1) (by simp) ?_)) | fail)
        intro g2 c2 w10 hown10 hgrow10 hat10 hg10
        have hsz10 : w9.heap.size + 1 ≤ w10.heap.size := by have := hgrow10.size; simpa using this
        have hq10 : w10.heap[q]? = w9.heap[q]? := (hgrow10.block q (by simp; omega) (fun e => HNe.out q e.symm rfl)).trans (heap_alloc_lt hql9)
        have cl10 : w10.cell? ⟨q, 0, none⟩ = some (.int .i64 ((i : Int) + 1)) := (World.cell?_of_block hq10).trans cl9
        have hB10 : Below (w.heap.size + 2) w9 w10 := ((Below.refl _ _).alloc (by omega) _).grown hgrow10 (by simp; omega) (fun p hp => (World.ownsRow.lt HOw9.out p hp).1)
        obtain ⟨w11, hw11⟩ : ∃ x, w10.alloc (.cells #[.int .i64 ((i : Int) + 1)] 3) = x := ⟨_, rfl⟩
        have hb11 : w11.heap[w10.heap.size]? = some (.cells #[.int .i64 ((i : Int) + 1)] 3 (0, 0)) := by rw [← hw11]; exact heap_new _ _
        have c11 : w11.cell? ⟨w10.heap.size, 0, none⟩ = some (.int .i64 ((i : Int) + 1)) := cell_at 0 hb11 rfl
        have f11 : w11.frozen? ⟨w10.heap.size, 0, none⟩ = false := free_at 0 hb11
        have hB11 : Below (w.heap.size + 2) w9 w11 := by rw [← hw11]; exact hB10.alloc (by omega) _
        have HO10 := Lib.hid hown10
        have hO11 := owns_of_heap hown10 (w' := w11) fun p hp => by rw [← hw11]; exact heap_alloc_lt (owns_lt hown10 p hp)
        have HO11 := Lib.hid hO11
        have HB11 := Lib.hid (HBb9.out.trans hB11)
        have HBl11 := Lib.hid hb11
        have hg10' : g2 < w10.heap.size := hg10
        clear cl9 hown10 hgrow10 hat10 hq10 hB10 hb11 hB11 hO11 hg10
        go_wp2_with fail
        clear hw11
        go_roundw
        case rel =>
          refine ⟨i, y, pre ++ [y], w10.heap.size, rfl, rfl, ?_, by omega, hyn, by omega, HDy.out, HPr2.out, by simp; omega, ?_, ?_, ?_⟩
          · exact heap_set 0 _ HBl11.out
          · rw [List.length_append, intl_natI_snoc]
            exact owns_of_heap HO11.out fun p hp => heap_set_ne _ _ (fun e => by cases hp; exact absurd e (Nat.ne_of_lt hg10'))
          · intro p hp
            cases hp
            exact Nat.ne_of_lt hg10'
          · exact HB11.out.setCell (by show w.heap.size + 2 ≤ w10.heap.size; omega) _
        case measure => simp only [sliceLen]; omega
      · exfalso
        have hfn : l.find? (fun b => decide (t < b) && decide (d.getD b 0 = ((i + 1 : Nat) : Int))) = none := by
          rw [List.find?_eq_none]
          intro z hz
          obtain ⟨k, hk, rfl⟩ := List.mem_iff_getElem.1 hz
          have : (decide (t < l.getD k 0) && decide (d.getD (l.getD k 0) 0 = ((i + 1 : Nat) : Int))) = false := hall k hk
          have e : l.getD k 0 = l[k] := by simp [List.getD, hk]
          rw [e] at this
          show ¬ ((decide (t < l[k]) && decide (d.getD l[k] 0 = ((i + 1 : Nat) : Int))) = true)
          rw [this]; simp
        rw [HFn.out] at hfn
        cases hfn
end Go.Proofs.YtafdijcolponjaaDoor
