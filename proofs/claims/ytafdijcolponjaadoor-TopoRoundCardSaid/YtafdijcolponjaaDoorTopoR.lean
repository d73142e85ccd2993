/- TopoRound returns true for every input. Condition: where the table lies. -/
import Derived.Test.YtafdijcolponjaaDoorTopoM
namespace Go.Proofs.YtafdijcolponjaaDoor
open Go.RowKit

theorem posF_get {ord : List Int} : ∀ {k : Nat} {x p : Int}, posF ord k x = some p → ∃ j, j < k ∧ p = (j : Nat) ∧ ord.getD j 0 = x
  | 0, x, p, h => by cases h
  | k + 1, x, p, h => by
    have h' : (if x = ord.getD k 0 then some (k : Int) else posF ord k x) = some p := h
    split at h'
    · rename_i hx
      cases h'
      exact ⟨k, Nat.lt_succ_self k, rfl, hx.symm⟩
    · obtain ⟨j, h1, h2⟩ := posF_get h'
      exact ⟨j, by omega, h2⟩
theorem natI_len (l : List Nat) : (natI l).length = l.length := by simp [natI]
theorem posF_nat {out : List Nat} (hn : out.Nodup) {i k : Nat} (hi : i < k) (hk : k ≤ out.length) : posF (natI out) k ((out.getD i 0 : Nat) : Int) = some (i : Int) := by
  have h1 := (posF_isSome (ord := natI out) (k := k) (x := ((out.getD i 0 : Nat) : Int))).2 ⟨i, hi, natI_at out i⟩
  obtain ⟨p, hp⟩ := Option.isSome_iff_exists.1 h1
  obtain ⟨j, hj, rfl, he⟩ := posF_get hp
  rw [natI_at] at he
  have := nodup_getD hn (by omega) (by omega) (Int.ofNat.inj he)
  rw [hp, this]
theorem isT_least {q : Nat} {z : Nat → Nat → Int} {m : Nat} {out : List Nat} (hq : q ≤ 500) (hM : mayE q z m = true) (ho : leastF q (ofZ q z m) q [] = some out) : isT (natI out) z m = true := by
  obtain ⟨h1, h2, h3⟩ := leastF_some ho (Stands.nil q (ofZ q z m)) Ahead.nil
  have hlen : out.length = q := by simpa using h3
  unfold isT
  rw [natI_len, hlen]
  have hob : ofB (q : Int) z m = true := by
    unfold ofB
    rw [decide_eq_true (by omega), Int.toNat_natCast, hM]; rfl
  have hok : okP (natI out) = true := by
    refine okP_yes fun i hi => ?_
    rw [natI_len] at hi
    unfold okAt
    rw [natI_at, natI_len]
    have hr : out.getD i 0 < q := h1.lt _ (by simp [List.getD, hi])
    rw [decide_eq_true (by omega), Bool.and_true]
    cases hp : posF (natI out) i ((out.getD i 0 : Nat) : Int) with
    | none => rfl
    | some p =>
      obtain ⟨j, hj, -, he⟩ := posF_get hp
      rw [natI_at] at he
      have := nodup_getD h1.once (by omega) hi (Int.ofNat.inj he)
      omega
  rw [hob, hok, Bool.true_and, Bool.true_and, Bool.not_eq_true']
  refine any_none fun i hi => decide_eq_false fun hle => ?_
  have hr := mayE_at hM hi
  obtain ⟨x, hx⟩ := Int.eq_ofNat_of_zero_le hr.1.1
  obtain ⟨y, hy⟩ := Int.eq_ofNat_of_zero_le hr.2.1
  have hmem : (x, y) ∈ ofZ q z m := (mem_ofZ hM _).2 ⟨i, hi, hx.symm, hy.symm⟩
  have hyn : y < q := by omega
  obtain ⟨b, hb, hbe⟩ := List.getElem_of_mem (all_in h1.once h1.lt hlen hyn)
  have hbe' : y = out.getD b 0 := by rw [← hbe]; simp [List.getD, hb]
  obtain ⟨a, hab, hae⟩ := h2 b hb _ hmem hbe'
  have e1 : posI (natI out) (z i 0) = (a : Int) := by
    unfold posI
    have hae' : x = out.getD a 0 := hae
    rw [natI_len, hx, hae', posF_nat h1.once (by omega) (Nat.le_refl _)]; rfl
  have e2 : posI (natI out) (z i 1) = (b : Int) := by
    unfold posI
    rw [natI_len, hy, hbe', posF_nat h1.once hb (Nat.le_refl _)]; rfl
  rw [e1, e2] at hle
  omega

set_option maxRecDepth 20000 in
set_option maxHeartbeats 2000000 in
theorem tround_walk (n : Int) (a1 : Option Addr) (len1 cap1 : Nat) (z1 : Nat → Nat → Int) (w : World)
    (_hn : (Lit.int .i64 n).wf = true) (h1 : IsRowS 2 w a1 len1 cap1 z1) (hT : TabIs w) :
    Calls Tryd.prog 14 #[.int .i64 n, .slice a1 len1 cap1] w (YesEnds w) := by
  have HT := Lib.hid hT
  have HI := Lib.hid h1
  have HW := Lib.hid (tworks_any w hT)
  clear hT h1 _hn
  go_enter Tryd.func14, Tryd.ntmps14
  go_wp2_with fail
  go_fit HW.out
  rintro e w0 ⟨rfl, hB0⟩
  have HSm := Lib.hid (small_any n w0)
  have HFe := Lib.hid (efew_any a1 len1 cap1 z1 w0 (HI.out.below hB0 (Nat.le_refl _) (by decide)))
  have hm60 : fewN len1 ≤ 60 := Nat.min_le_right _ _
  have HB0 := Lib.hid hB0
  generalize smallN n = nn at *
  generalize fewN len1 = m at *
  clear hB0
  go_wp2_with fail
  go_fit HSm.out
  rintro e w' ⟨rfl, rfl⟩
  go_wp2_with fail
  go_fit HFe.out
  rintro e wb ⟨g, c, rfl, hown, hB1⟩
  have hB1' := HB0.out.trans (hB1.mono HB0.out.size)
  have HEa := Lib.hid (EdgesIn.of_owns hown)
  have HO := Lib.hid (tleast_any nn m c (some ⟨g, 0, none⟩) z1 wb (EdgesIn.of_owns hown) (tab_below HT.out hB1' (Nat.le_refl _)))
  have HB2 := Lib.hid hB1'
  clear hown hB1 hB1'
  go_wp2_with fail
  go_fit HO.out
  rintro e wc (⟨hyes, hB, (⟨out, v, ho, rfl, hown⟩ | ⟨hno, rfl⟩)⟩ | ⟨hno, rfl, hB⟩)
  · obtain ⟨q, rfl, hq, hM⟩ := of_yes hyes
    rw [Int.toNat_natCast] at ho
    have hE3 := HEa.out.below hB (Nat.le_refl _)
    have hR := rround_any q m c (some ⟨g, 0, none⟩) z1 wc hq hE3 hM
    have hlr := least_round (ofZ_inr hM)
    rw [ho] at hlr
    have hrb : roundB q (ofZ q z1 m) = false := by
      cases h : roundB q (ofZ q z1 m) with
      | false => rfl
      | true => rw [h] at hlr; cases hlr
    rw [hrb] at hR
    have hist := isT_least hq hM ho
    have hlt := (leastF_some ho (Stands.nil q (ofZ q z1 m)) Ahead.nil).1.lt
    obtain ⟨ad, cx, rfl, hs⟩ := src_list hown
    have HR := Lib.hid hR
    have HS := Lib.hid hs
    have HE3 := Lib.hid hE3
    have HIst := Lib.hid hist
    have HWo : Hid (∀ x ∈ natI out, (Lit.int .i64 x).wf = true) := fun x hx => by
      obtain ⟨y, hy, rfl⟩ := List.mem_map.1 hx
      have := hlt y hy
      exact WalkArith.wf_i64 (by show -9223372036854775808 ≤ ((y : Nat) : Int) ∧ ((y : Nat) : Int) ≤ 9223372036854775807; omega)
    have HB3 := Lib.hid (HB2.out.trans (hB.mono HB2.out.size))
    clear hyes hB ho hown hM hE3 hR hs hlr hrb hist hlt
    go_wp2_with fail
    go_fit HR.out
    rintro e wd ⟨rfl, hB4⟩
    have hIs := tis_any ad _ cx (natI out) (some ⟨g, 0, none⟩) m c z1 wd (HS.out.belowAll hB4 (Nat.le_refl _)) HWo.out (HE3.out.below hB4 (Nat.le_refl _))
    rw [HIst.out] at hIs
    have HIs := Lib.hid hIs
    have HB4 := Lib.hid (HB3.out.trans (hB4.mono HB3.out.size))
    clear hB4 hIs
    go_wp2_with fail
    go_fit HIs.out
    rintro e we ⟨rfl, hB5⟩
    have HB5 := Lib.hid (HB4.out.trans (hB5.mono HB4.out.size))
    clear hB5
    go_wp2_with fail
    go_ret
    exact ⟨rfl, HB5.out⟩
  · obtain ⟨q, rfl, hq, hM⟩ := of_yes hyes
    rw [Int.toNat_natCast] at hno
    have hE3 := HEa.out.below hB (Nat.le_refl _)
    have hR := rround_any q m c (some ⟨g, 0, none⟩) z1 wc hq hE3 hM
    have hlr := least_round (ofZ_inr hM)
    rw [hno] at hlr
    have hrb : roundB q (ofZ q z1 m) = true := by
      cases h : roundB q (ofZ q z1 m) with
      | true => rfl
      | false => rw [h] at hlr; cases hlr
    rw [hrb] at hR
    have HR := Lib.hid hR
    have HB3 := Lib.hid (HB2.out.trans (hB.mono HB2.out.size))
    clear hyes hB hno hM hE3 hR hlr hrb
    go_wp2_with fail
    go_fit HR.out
    rintro e wd ⟨rfl, hB4⟩
    have HB4 := Lib.hid (HB3.out.trans (hB4.mono HB3.out.size))
    clear hB4
    go_wp2_with fail
    go_ret
    exact ⟨rfl, HB4.out⟩
  · have hMay := rg_may nn (some ⟨g, 0, none⟩) m c z1 wc (HEa.out.below hB (Nat.le_refl _))
    rw [hno] at hMay
    have HMay := Lib.hid hMay
    have HB3 := Lib.hid (HB2.out.trans (hB.mono HB2.out.size))
    clear hno hB hMay
    go_wp2_with fail
    go_fit HMay.out
    rintro e w' ⟨rfl, rfl⟩
    go_wp2_with fail
    go_ret
    exact ⟨rfl, HB3.out⟩
end Go.Proofs.YtafdijcolponjaaDoor
