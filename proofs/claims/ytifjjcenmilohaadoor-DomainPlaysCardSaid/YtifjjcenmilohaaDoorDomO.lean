/- The contracts of the document's Only, Open. Conditions: rows of 1 to 60 truths, at most 200. -/
import Derived.Test.YtifjjcenmilohaaDoorDomN
namespace Go.Proofs.YtifjjcenmilohaaDoor
open Go.RowKit

def mixB (x : List Bool) (k m : Nat) : List Bool := (List.range x.length).map fun j => if j < m then decide (j = k) else x.getD j false
def oneB (n k : Nat) : List Bool := (List.range n).map fun j => decide (j = k)
theorem mixB_len (x : List Bool) (k m : Nat) : (mixB x k m).length = x.length := by simp [mixB]
theorem mixB_zero (x : List Bool) (k : Nat) : mixB x k 0 = x := by
  refine List.ext_getElem (by simp [mixB]) fun i h1 h2 => ?_
  simp [mixB, h2]
theorem mixB_all (x : List Bool) (k : Nat) : mixB x k x.length = oneB x.length k := by
  unfold mixB oneB
  refine List.map_congr_left fun i hi => ?_
  rw [if_pos (List.mem_range.1 hi)]
theorem mixB_step (x : List Bool) (k : Nat) {m : Nat} : (mixB x k m).set m (decide (m = k)) = mixB x k (m + 1) := by
  refine List.ext_getElem (by simp [mixB]) fun i h1 h2 => ?_
  rw [List.getElem_set]
  have hi : i < x.length := by simpa [mixB] using h2
  simp only [mixB, List.getElem_map, List.getElem_range]
  by_cases h : m = i
  · subst h; rw [if_pos rfl, if_pos (by omega)]
  · rw [if_neg h]
    by_cases h' : i < m
    · rw [if_pos h', if_pos (by omega)]
    · rw [if_neg h', if_neg (by omega)]
def onlyR (R : List (List Bool)) (v k : Int) : Int × List (List Bool) :=
  if thereB R v k = true then (if (R.getD v.toNat []).getD k.toNat false = true then (0, R.set v.toNat (oneB (R.getD v.toNat []).length k.toNat)) else (3, R)) else (2, R)
def OnlyRel (w : World) (r : Nat) (F : List Nat) (R : List (List Bool)) (hs : List KeptR) (i : Nat) (x : List Bool) (k : Nat) (iv : Value) (wr : World) : Prop :=
  ∃ m : Nat, m ≤ x.length ∧ iv = .int .i64 m ∧ DRef wr r F (R.set i (mixB x k m)) hs ∧ Chg (· ∈ F) w wr

set_option maxRecDepth 20000 in
theorem ronly_any (r : Nat) (F : List Nat) (R : List (List Bool)) (hs : List KeptR) (v k : Int) (w : World) (h : DRef w r F R hs) (hR : RowsOk R) :
    Calls Tryd.prog 15 #[.pointer (some ⟨r, 0, none⟩), .int .i64 v, .int .i64 k] w (RDEnds r F (.int .i64 (onlyR R v k).1) (onlyR R v k).2 hs w) := by
  have HT := Lib.hid (rthere_any r F R hs v k w h)
  have HD := Lib.hid h
  unfold onlyR
  by_cases ht : thereB R v k = true
  · rw [if_pos ht]
    rw [ht] at HT
    have hv : (0 ≤ v ∧ v < (R.length : Int)) ∧ 0 ≤ k ∧ k < ((R.getD v.toNat []).length : Int) := by
      unfold thereB at ht
      rw [Bool.and_eq_true] at ht
      exact ⟨of_decide_eq_true ht.1, of_decide_eq_true ht.2⟩
    obtain ⟨⟨hv0, hv1⟩, hk0, hk1⟩ := hv
    obtain ⟨i, rfl⟩ := Int.eq_ofNat_of_zero_le hv0
    obtain ⟨j, rfl⟩ := Int.eq_ofNat_of_zero_le hk0
    rw [Int.toNat_natCast] at hk1 ⊢
    rw [Int.toNat_natCast]
    have hi : i < R.length := by omega
    have hj : j < (R.getD i []).length := by omega
    obtain ⟨-, hx60⟩ := hR.2 i hi
    obtain ⟨vI, vT, F0, hA⟩ := h
    obtain ⟨g, c, q, cc, rfl, e2, e3, e4, e5, e6, e7, e8, -, -⟩ := hA.set hi hj
    have c0 := cell_at 0 hA.at_ rfl
    have hst : DRef w r F (R.set i (mixB (R.getD i []) j 0)) hs := by
      rw [mixB_zero]
      have : R.set i (R.getD i []) = R := by simp [hi]
      rw [this]; exact HD.out
    have HSt := Lib.hid hst
    generalize hx : R.getD i [] = x at *
    have HX := Lib.hid hx
    generalize hb : x.getD j false = b at *
    clear hA ht hR hst hx
    cases b with
    | false =>
      rw [if_neg (by simp)]
      generalize R.length = n at *
      clear hb
      go_enter Tryd.func15, Tryd.ntmps15
      go_wp2_with fail
      go_fit HT.out
      rintro e w' ⟨rfl, rfl⟩
      go_wp2_with fail
      go_ret
      exact rd_idle HD.out
    | true =>
      rw [if_pos rfl]
      clear hb
      go_enter Tryd.func15, Tryd.ntmps15
      go_wp2_with fail
      go_fit HT.out
      rintro e w' ⟨rfl, rfl⟩
      go_wp2_with fail
      go_loopw [7] (fun iv wr => OnlyRel w r F R hs i x j iv wr) (fun iv _ => x.length - (intOf iv).toNat)
      case atStart => exact ⟨0, Nat.zero_le _, rfl, HSt.out, Chg.refl _ _⟩
      case round =>
        clear HSt c0 e2 e3 e4 e5 e6 e7 e8
        obtain ⟨m, hm, rfl, hD, hC⟩ := hrel
        have HDm := Lib.hid hD
        have HC := Lib.hid hC
        have hRl : (R.set i (mixB x j m)).length = R.length := List.length_set ..
        have hRi : (R.set i (mixB x j m)).getD i [] = mixB x j m := by
          simp [hi]
        have hml := mixB_len x j m
        have hm0 : (0 : Int) ≤ (m : Int) := by omega
        obtain ⟨vI, vT, F0, hA⟩ := hD
        by_cases hlt : m < x.length
        · obtain ⟨g', c', q', cc', rfl, e2, e3, e4, e5, e6, e7, e8, hqF, hset⟩ := hA.set (i := i) (k := m) (by rw [hRl]; exact hi) (by rw [hRi, hml]; exact hlt)
          have c0 := cell_at 0 hA.at_ rfl
          have HSet := Lib.hid (hset (decide (m = j)))
          have HqF := Lib.hid hqF
          rw [hRi, hml] at e4 e5
          rw [hRl] at e2 c0
          have hm1 : (m : Int) < (x.length : Int) := by omega
          have hdec : ((m : Int) == (j : Int)) = decide (m = j) := by
            by_cases h : m = j
            · subst h; simp
            · rw [decide_eq_false h]; simp; omega
          clear hset hA hqF hC hRl hRi
          go_wp2_with fail
          go_roundw
          case rel =>
            refine ⟨m + 1, by omega, by go_num, ?_, HC.out.setCell (p := ⟨q', m, none⟩) (.inl HqF.out) _⟩
            have hs := HSet.out
            have hRi : (R.set i (mixB x j m)).getD i [] = mixB x j m := by
              simp [hi]
            rw [hRi, List.set_set, mixB_step] at hs
            exact ⟨_, _, _, hs⟩
          case measure => simp [intOf]; omega
        · obtain rfl : m = x.length := by omega
          obtain ⟨g', c', a', cc', rfl, e2, e3, e4, e5, e6, -, -⟩ := hA.now.row (i := i) (by rw [hRl]; exact hi)
          have c0 := cell_at 0 hA.at_ rfl
          rw [hRi, hml] at e4 e5
          rw [hRl] at e2 c0
          clear hA hC hRl hRi
          go_wp2_with fail
          go_ret
          have hd := HDm.out
          rw [mixB_all] at hd
          exact ⟨rfl, F, hd, fun _ hk => .inl hk, HC.out⟩
  · rw [if_neg ht]
    have e : thereB R v k = false := by simpa using ht
    rw [e] at HT
    clear h hR ht e
    go_enter Tryd.func15, Tryd.ntmps15
    go_wp2_with fail
    go_fit HT.out
    rintro e w' ⟨rfl, rfl⟩
    go_wp2_with fail
    go_ret
    exact rd_idle HD.out

def ropenB (R : List (List Bool)) (v : Nat) : Bool := decide (1 < (leftB R v).length)
def ropenL (R : List (List Bool)) : List Nat := (List.range R.length).filter (ropenB R)
theorem ropen_any (r : Nat) (F : List Nat) (R : List (List Bool)) (hs : List KeptR) (w : World) (h : DRef w r F R hs) (hR : RowsOk R) :
    Calls Tryd.prog 25 #[.pointer (some ⟨r, 0, none⟩)] w (ListEnds (ropenL R) w) := by
  have HD := Lib.hid h
  have HR := Lib.hid hR
  have hn200 := hR.1
  obtain ⟨i0, hi, hz0, hz1, hz2⟩ := info_parts infoInt
  have hrow := World.ownsRow_made (base := w.heap.size) (e := 3) (size := 1) w #[] 0 (Nat.le_refl _) (by decide) rfl
  have HRow := Lib.hid hrow
  have HBl := Lib.hid ((Below.refl w.heap.size w).alloc (Nat.le_refl _) (.cells #[] 3))
  unfold ropenL
  obtain ⟨p, hp⟩ : ∃ p, p = ropenB R := ⟨_, rfl⟩
  rw [← hp]
  have HP := Lib.hid hp
  clear hp h hR hrow
  go_enter Tryd.func25, Tryd.ntmps25
  go_wp2_with fail
  go_loopw [3, 4] (fun v i wr => RListRel w R.length p v i wr) (fun _ i _ => R.length - (intOf i).toNat)
  case atStart => exact ⟨0, Nat.zero_le _, rfl, HRow.out, HBl.out⟩
  case round =>
    clear HRow HBl
    obtain ⟨k, hk, rfl, hown, hB⟩ := hrel
    have hD := HD.out.below hB (Nat.le_refl _)
    have hX := rleft_any r F R hs k wr hD HR.out
    obtain ⟨vI, vT, F0, hA⟩ := hD
    have c0 := cell_at 0 hA.at_ rfl
    obtain ⟨aI, cI, rfl, -, -⟩ := hA.now.form
    have hpk : p k = decide (1 < (leftB R k).length) := by rw [HP.out]; rfl
    have HS := Lib.hid (filter_succ p k)
    have HL := filter_len p k
    have hk0 : (0 : Int) ≤ (k : Int) := by omega
    have HO := Lib.hid hown
    have HB := Lib.hid hB
    clear hA
    by_cases hlt : k < R.length
    · have hk1 : (k : Int) < (R.length : Int) := by omega
      generalize leftB R k = lv at *
      generalize (List.range k).filter p = l at *
      unfold ListEnds at hX
      have HXx := Lib.hid hX
      have HM : Hid (l.length + 1 ≤ maxLen ∧ (l.length + 1) * 8 ≤ 140737488355328) := by
        show _ ∧ _
        unfold maxLen; omega
      clear hown hB hX
      by_cases hf : 1 < lv.length
      · have hq : p k = true := by rw [hpk, decide_eq_true hf]
        rw [hq, if_pos rfl] at HS
        have hf1 : (1 : Int) < (lv.length : Int) := by omega
        clear hq hpk hf
        go_wp2_with fail
        go_fit HXx.out
        rintro e w1 ⟨v1, rfl, hownl, hB1⟩
        obtain ⟨al, cl, rfl⟩ := slice_form hownl
        have HB1 := Lib.hid (HB.out.trans (hB1.mono HB.out.size))
        have HO1 := Lib.hid (owns_of_heap HO.out fun q hq => hB1.block q (owns_lt HO.out q hq))
        have hb := HB1.out.size
        have hb2 : Hid (∀ o, w.heap.size ≤ (w1.alloc o).heap.size) := fun o => by simp; omega
        clear hB1 hb hownl
        go_wp2_with (first | (at_builtin; go_loud (refine wpList_append_own _ rfl _ _ 22 rfl w.heap.size 3 i0 (.int .i64 0) 1 8 Tryd.underlying22 hi hz0 hz1 hz2 rfl (by decide) _ l.length (intl (natI l)) rfl (HO1.out.alloc _) ⟨w1.heap.size, 0, none⟩ 1 1 [_] rfl rfl (one_new w1 _ _) (one_cell _ _) HM.out.1 HM.out.2 (hb2.out _) ?_)) | fail)
        intro v' w2 hown1 hgrow hnn
        have HO2 := Lib.hid hown1
        have HG := Lib.hid hgrow
        clear hnn hown1 hgrow
        go_wp2_with fail
        go_roundw
        case rel =>
          refine ⟨k + 1, by omega, by go_num, ?_, (HB1.out.alloc HB1.out.size _).grown HG.out (hb2.out _) (fun q hq => (World.ownsRow.lt HO1.out q hq).1)⟩
          rw [HS.out]
          have e : intl (natI (l ++ [k])) = intl (natI l) ++ [Value.int .i64 (k : Int)] := by simp [intl, natI]
          rw [e, List.length_append]
          exact HO2.out
        case measure => simp [intOf]; omega
      · have hq : p k = false := by rw [hpk, decide_eq_false hf]
        rw [hq, if_neg (by simp), List.append_nil] at HS
        have hf1 : ¬ (1 : Int) < (lv.length : Int) := by omega
        clear hq hpk hf
        go_wp2_with fail
        go_fit HXx.out
        rintro e w1 ⟨v1, rfl, hownl, hB1⟩
        obtain ⟨al, cl, rfl⟩ := slice_form hownl
        have HB1 := Lib.hid (HB.out.trans (hB1.mono HB.out.size))
        have HO1 := Lib.hid (owns_of_heap HO.out fun q hq => hB1.block q (owns_lt HO.out q hq))
        clear hB1 hownl
        go_wp2_with fail
        go_roundw
        case rel => exact ⟨k + 1, by omega, by go_num, by rw [HS.out]; exact HO1.out, HB1.out⟩
        case measure => simp [intOf]; omega
    · obtain rfl : k = R.length := by omega
      clear hown hB hX hpk
      go_wp2_with fail
      go_ret
      exact ⟨_, rfl, HO.out, HB.out⟩
end Go.Proofs.YtifjjcenmilohaaDoor
