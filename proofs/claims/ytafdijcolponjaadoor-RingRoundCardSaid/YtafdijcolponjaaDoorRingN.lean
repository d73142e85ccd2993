/- RingRound returns true for every input. Condition: where the table lies. -/
import Derived.Test.YtafdijcolponjaaDoorRingM
namespace Go.Proofs.YtafdijcolponjaaDoor
open Go.RowKit

/-- A shortest ring is a ring. -/
theorem ring_least {n : Nat} {L : List (Nat × Nat)} {best : List Nat} (hL : ∀ e ∈ L, e.1 < n ∧ e.2 < n) (h : LeastAt n L n best) (hne : best ≠ []) : ringB (natI best) L = true := by
  rcases h with ⟨h0, -⟩ | ⟨a, j, d, -, han, hd, hda, hb, -⟩
  · exact absurd h0 hne
  have hlen := walkF_len hL hd j a han (Nat.le_refl a) hda
  have hnd := walkF_nodup hL hd j a han (Nat.le_refl a) hda
  have hlow := walkF_low hL hd j a han (Nat.le_refl a) hda
  obtain ⟨hed, hel⟩ := walkF_edge hL hd j a han (Nat.le_refl a) hda
  have hll : best.length = j + 1 := by rw [hb, List.length_cons, hlen]
  have hb0 : best.getD 0 0 = a := by rw [hb]; rfl
  have hge : ∀ y ∈ best, a ≤ y := fun y hy => by
    rw [hb] at hy
    rcases List.mem_cons.1 hy with rfl | hy
    · exact Nat.le_refl _
    · exact Nat.le_of_lt (hlow y hy).2.1
  rw [← hb] at hnd hed hel
  have hnl : (natI best).length = j + 1 := by simp [natI, hll]
  unfold ringB
  rw [Bool.and_eq_true, Bool.and_eq_true, decide_eq_true_iff, decide_eq_true_iff, List.all_eq_true]
  refine ⟨fun e => by rw [e] at hnl; simp at hnl, fun i hi => ?_, fun i hi => ?_⟩
  · rw [natI_at, natI_at, hb0]
    rw [hnl] at hi
    have := hge (best.getD i 0) (by simp [List.getD, show i < best.length by omega])
    omega
  · have hi := List.mem_range.1 hi
    rw [hnl] at hi
    have hib : i < best.length := by omega
    unfold okR
    rw [hnl, natI_at, natI_at, hasR_nat, Bool.and_eq_true, decide_eq_true_iff, decide_eq_true_iff]
    constructor
    · intro hm
      have hm2 : ((best.getD i 0 : Nat) : Int) ∈ (best.take i).map Int.ofNat := by rw [List.map_take]; exact hm
      obtain ⟨y, hy, he⟩ := List.mem_map.1 hm2
      have hye : y = best.getD i 0 := Int.ofNat.inj he
      have hE : best = best.take i ++ best[i] :: best.drop (i + 1) := by rw [List.getElem_cons_drop, List.take_append_drop]
      have he2 : best.getD i 0 = best[i] := by simp [List.getD, hib]
      have hnd2 : (best.take i ++ best[i] :: best.drop (i + 1)).Nodup := by rw [← hE]; exact hnd
      rw [List.nodup_append] at hnd2
      exact hnd2.2.2 y hy best[i] List.mem_cons_self (hye.trans he2)
    · by_cases hij : i = j
      · subst hij
        rw [Nat.mod_self, hb0]
        exact hel
      · rw [Nat.mod_eq_of_lt (by omega)]
        exact hed i (by omega)
theorem least_lt {n : Nat} {L : List (Nat × Nat)} {best : List Nat} (hL : ∀ e ∈ L, e.1 < n ∧ e.2 < n) (h : LeastAt n L n best) : ∀ y ∈ best, y < n := by
  rcases h with ⟨h0, -⟩ | ⟨a, j, d, -, han, hd, hda, hb, -⟩
  · rw [h0]; intro y hy; cases hy
  · intro y hy
    rw [hb] at hy
    rcases List.mem_cons.1 hy with rfl | hy
    · exact han
    · exact (walkF_low hL hd j a han (Nat.le_refl a) hda y hy).1

set_option maxRecDepth 20000 in
set_option maxHeartbeats 2000000 in
theorem rground_walk (n : Int) (a1 : Option Addr) (len1 cap1 : Nat) (z1 : Nat → Nat → Int) (w : World)
    (_hn : (Lit.int .i64 n).wf = true) (h1 : IsRowS 2 w a1 len1 cap1 z1) (hT : TabIs w) :
    Calls Tryd.prog 20 #[.int .i64 n, .slice a1 len1 cap1] w (YesEnds w) := by
  have HT := Lib.hid hT
  have HW := Lib.hid (rgworks_any w hT)
  have HR := Lib.hid h1
  clear hT h1 _hn
  go_enter Tryd.func20, Tryd.ntmps20
  go_wp2_with fail
  go_fit HW.out
  rintro e w0 ⟨rfl, hB0⟩
  have HSm := Lib.hid (small_any n w0)
  have HFe := Lib.hid (efew_any a1 len1 cap1 z1 w0 (HR.out.below hB0 (Nat.le_refl _) (by decide)))
  have HB0 := Lib.hid hB0
  generalize smallN n = nn at *
  generalize fewN len1 = m at *
  clear hB0
  go_wp2_with fail
  go_fit HSm.out
  rintro e w' ⟨rfl, rfl⟩
  go_wp2_with fail
  go_fit HFe.out
  rintro e wa ⟨g, c, rfl, hown, hB1⟩
  have hB1' := HB0.out.trans (hB1.mono HB0.out.size)
  have HO := Lib.hid (rgleast_any nn m c (some ⟨g, 0, none⟩) z1 wa (EdgesIn.of_owns hown) (tab_below HT.out hB1' (Nat.le_refl _)))
  have HEa := Lib.hid (EdgesIn.of_owns hown)
  have HB1 := Lib.hid hB1'
  clear hown hB1 hB1'
  go_wp2_with fail
  go_fit HO.out
  rintro e wb ⟨hB, (⟨hyes, best, hla, hsh⟩ | ⟨hno, rfl⟩)⟩
  · obtain ⟨q, rfl, hq, hM⟩ := of_yes' hyes
    rw [Int.toNat_natCast] at hla
    have hB2 := HB1.out.trans (hB.mono HB1.out.size)
    have HEb := Lib.hid (HEa.out.below hB (Nat.le_refl _))
    have hTl := tleast_any q m c (some ⟨g, 0, none⟩) z1 wb HEb.out (tab_below HT.out hB2 (Nat.le_refl _))
    have hlr := least_round (ofZ_inr hM)
    have hri := least_round_iff (ofZ_inr hM) hla
    have hlt := least_lt (ofZ_inr hM) hla
    have hrg := fun h => ring_least (ofZ_inr hM) hla h
    have HRd : Hid (∀ W, EdgesIn W (some ⟨g, 0, none⟩) m z1 → Calls Tryd.prog 70 #[.int .i64 q, .slice (some ⟨g, 0, none⟩) m c] W fun e w' => e = .returned (.bool (decide (best ≠ []))) ∧ Below W.heap.size W w') := fun W hW => by
      have h := rround_any q m c (some ⟨g, 0, none⟩) z1 W hq hW hM
      rw [hri] at h
      exact h
    have HTl := Lib.hid hTl
    have HYes := Lib.hid hyes
    have HB2 := Lib.hid hB2
    have HLr : Hid ((leastF (q : Int).toNat (ofZ (q : Int).toNat z1 m) (q : Int).toNat []).isSome = !decide (best ≠ [])) := by
      show _ = _
      rw [Int.toNat_natCast, hlr, hri]
    rcases hsh with ⟨hb0, rfl⟩ | ⟨hne, v, rfl, hown⟩
    · have hd : decide (best ≠ []) = false := by rw [hb0]; rfl
      rw [hd] at HRd HLr
      clear hB hyes hM hB2 hTl hlr hri hlt hrg hla hd hb0
      go_wp2_with fail
      go_fit HTl.out
      rintro e wc (⟨-, hB, (⟨out, v, ho, rfl, hown⟩ | ⟨hno, rfl⟩)⟩ | ⟨hno, -⟩)
      · have HRd3 := Lib.hid (HRd.out wc (HEb.out.below hB (Nat.le_refl _)))
        have HB3 := Lib.hid (HB2.out.trans (hB.mono HB2.out.size))
        clear hB hown ho
        go_wp2_with fail
        go_fit HRd3.out
        rintro e wd ⟨rfl, hB⟩
        have HB4 := Lib.hid (HB3.out.trans (hB.mono HB3.out.size))
        clear hB
        go_wp2_with fail
        go_ret
        exact ⟨rfl, HB4.out⟩
      · have := HLr.out
        rw [hno] at this
        cases this
      · exact absurd (HYes.out.symm.trans hno) (by decide)
    · have hd : decide (best ≠ []) = true := decide_eq_true hne
      rw [hd] at HRd HLr
      obtain ⟨ad, cx, rfl, hs⟩ := src_list hown
      have hnl : (natI best).length = best.length := by simp [natI]
      have HIs : Hid (∀ W, Src W ad best.length cx 1 (intl (natI best)) → EdgesIn W (some ⟨g, 0, none⟩) m z1 → TabIs W → Calls Tryd.prog 83 #[.int .i64 q, .slice ad best.length cx, .slice (some ⟨g, 0, none⟩) m c] W fun e w' => e = .returned (.bool true) ∧ Below W.heap.size W w') := fun W hsW hEW hTW => by
        have h := rgis_any q ad cx (natI best) (some ⟨g, 0, none⟩) m c z1 W (by rw [hnl]; exact hsW) (fun y hy => by
          obtain ⟨x, hx, rfl⟩ := List.mem_map.1 hy
          have := hlt x hx
          exact WalkArith.wf_i64 (n := (x : Int)) (by omega)) hEW hTW
        unfold RgIsEnds at h
        rw [hyes, Int.toNat_natCast, hrg hne, hnl] at h
        exact h
      have HS := Lib.hid hs
      clear hB hyes hM hB2 hTl hlr hri hlt hrg hla hd hne hown hs hnl
      go_wp2_with fail
      go_fit HTl.out
      rintro e wc (⟨-, hB, (⟨out, v, ho, rfl, hown⟩ | ⟨hno, rfl⟩)⟩ | ⟨hno, -⟩)
      · have := HLr.out
        rw [ho] at this
        cases this
      · have hEc := HEb.out.below hB (Nat.le_refl _)
        have HRd3 := Lib.hid (HRd.out wc hEc)
        have HS3 := Lib.hid (HS.out.belowAll hB (Nat.le_refl _))
        have HEc := Lib.hid hEc
        have HB3 := Lib.hid (HB2.out.trans (hB.mono HB2.out.size))
        clear hB hEc hno
        go_wp2_with fail
        go_fit HRd3.out
        rintro e wd ⟨rfl, hB⟩
        have hB4 := HB3.out.trans (hB.mono HB3.out.size)
        have HIs4 := Lib.hid (HIs.out wd (HS3.out.belowAll hB (Nat.le_refl _)) (HEc.out.below hB (Nat.le_refl _)) (tab_below HT.out hB4 (Nat.le_refl _)))
        have HB4 := Lib.hid hB4
        clear hB hB4
        go_wp2_with fail
        go_fit HIs4.out
        rintro e we ⟨rfl, hB⟩
        have HB5 := Lib.hid (HB4.out.trans (hB.mono HB4.out.size))
        clear hB
        go_wp2_with fail
        go_ret
        exact ⟨rfl, HB5.out⟩
      · exact absurd (HYes.out.symm.trans hno) (by decide)
  · have hMay := rg_may nn (some ⟨g, 0, none⟩) m c z1 wb (HEa.out.below hB (Nat.le_refl _))
    rw [hno] at hMay
    have HMay := Lib.hid hMay
    have HB2 := Lib.hid (HB1.out.trans (hB.mono HB1.out.size))
    clear hB hno hMay
    go_wp2_with fail
    go_fit HMay.out
    rintro e w' ⟨rfl, rfl⟩
    go_wp2_with fail
    go_ret
    exact ⟨rfl, HB2.out⟩
end Go.Proofs.YtafdijcolponjaaDoor
