/- The contracts of a domain's left, keep, Drop, Only. No condition but those in each statement. -/
import Derived.Test.YtifjjcenmilohaaDoorDomB
namespace Go.Proofs.YtifjjcenmilohaaDoor
open Go.RowKit

/-- The masks X tell what is left of each variable. -/
structure DOk (sz X : List Nat) (T : TM) : Prop where
  rng : ∀ v, v < sz.length → (1 ≤ sz.getD v 0 ∧ sz.getD v 0 ≤ 60) ∧ 1 ≤ X.getD v 0 ∧ X.getD v 0 ≤ full (sz.getD v 0)
  cel : ∀ v, v < sz.length → T.cells.getD v 0 = (andN (full (sz.getD v 0)) (X.getD v 0) : Nat)
  cl : T.cells.length = sz.length
  xl : X.length = sz.length

theorem dleft_any (d i : Nat) (F sz X : List Nat) (T : TM) (w : World) (h : DomAt w d F sz T) (hk : DOk sz X T) (hi : i < sz.length) :
    Calls Tryd.prog 30 #[.pointer (some ⟨d, 0, none⟩), .int .i64 i] w fun e w' => e = .returned (.int .i64 (X.getD i 0 : Nat)) ∧ Same w w' := by
  obtain ⟨⟨hs1, hs2⟩, hx1, hx2⟩ := hk.rng i hi
  have hc := hk.cel i hi
  have HA := Lib.hid (dall_any d i F sz T w.drew h.drew hi hs2)
  obtain ⟨b, vs, Ft, h1, -, hT, hcl, -⟩ := h
  have hG := get_any b Ft T i w.drew hT
  rw [if_pos (by omega), Int.toNat_natCast, hc] at hG
  have HG := Lib.hid hG
  have c0 : w.cell? ⟨d, 0, none⟩ = some (.pointer (some ⟨b, 0, none⟩)) := cell_at 0 h1 rfl
  have hgone := gone_gone hs2 hx2
  have hf := full_lt _ hs2
  have hle := andN_le (full (sz.getD i 0)) (X.getD i 0)
  generalize full (sz.getD i 0) = f at *
  generalize X.getD i 0 = x at *
  have hv := i64_andNot_nat f (andN f x) (by omega) (by omega)
  rw [hgone] at hv
  have HV := Lib.hid hv
  generalize andN f x = y at *
  clear h1 hT hG hc hcl hgone hv hs1 hs2 hx1 hx2
  go_enter Tryd.func30, Tryd.ntmps30
  go_wp2_with fail
  go_region_held3 (fun w' => w'.cell? ⟨d, 0, none⟩ = some (.pointer (some ⟨b, 0, none⟩)))
    (first
      | exact c0
      | fail)
    ((first
      | (go_at_call 38
         (with_reducible refine HA.out.mono ?_)
         rintro e w' ⟨rfl, rfl⟩)
      | (go_at_call 39
         (with_reducible refine HG.out.mono ?_)
         rintro e w' ⟨rfl, rfl⟩)
      | fail))
  go_wp2_with fail
  go_ret
  exact ⟨ret_int HV.out, (Same.refl w).drew⟩

theorem dkeep_none (d i : Nat) (F sz : List Nat) (T : TM) (w : World) (h : DomAt w d F sz T) :
    Calls Tryd.prog 29 #[.pointer (some ⟨d, 0, none⟩), .int .i64 i, .int .i64 (0 : Nat)] w (DEnds d F (.int .i64 3) sz T w) := by
  have H := Lib.hid h
  clear h
  go_enter Tryd.func29, Tryd.ntmps29
  go_wp2_with fail
  go_ret
  exact dom_idle H.out

def setT (sz : List Nat) (T : TM) (i x : Nat) : TM := T.set i (andN (full (sz.getD i 0)) x : Nat)

theorem dkeep_some (d i x : Nat) (F sz : List Nat) (T : TM) (N : Nat) (w : World) (h : DomAt w d F sz T) (hi : i < sz.length) (hs : sz.getD i 0 ≤ 60) (hx0 : 1 ≤ x) (hx : x ≤ full (sz.getD i 0)) (hok : T.ok N) (hN : N ≤ 1099511627776) :
    Calls Tryd.prog 29 #[.pointer (some ⟨d, 0, none⟩), .int .i64 i, .int .i64 x] w (DEnds d F (.int .i64 0) sz (setT sz T i x) w) := by
  have HA := Lib.hid (dall_any d i F sz T w.drew h.drew hi hs)
  obtain ⟨b, vs, Ft, h1, h2, hT, hcl, rfl, hNd⟩ := h
  have c0 : w.cell? ⟨d, 0, none⟩ = some (.pointer (some ⟨b, 0, none⟩)) := cell_at 0 h1 rfl
  unfold setT
  have hf := full_lt _ hs
  generalize full (sz.getD i 0) = f at *
  have hv := i64_andNot_nat f x (by omega) (by omega)
  have hS := set_any b Ft T i (andN f x : Nat) w.drew hT hok hN
  unfold setF at hS
  rw [if_pos (TM.has_yes (by omega) (by omega)), Int.toNat_natCast] at hS
  have HS := Lib.hid hS
  have hle := andN_le f x
  generalize andN f x = y at *
  have HD := Lib.hid (fun e w' he => dom_step (T' := T.set i y) (w := w.drew) (w' := w') (e := e) (v := .int .i64 0) h1 h2 hNd he (by simp [TM.set, hcl]))
  have hx0' : ¬ ((x : Int) = 0) := by omega
  have hdw := lt_of_block h1
  have hdF : d ∉ Ft := fun h => (List.nodup_cons.1 hNd).1 (by simp [h])
  clear h1 h2 hT hcl hNd hS hx0 hx
  go_enter Tryd.func29, Tryd.ntmps29
  go_wp2_with fail
  go_region_held3 (fun w' => w'.cell? ⟨d, 0, none⟩ = some (.pointer (some ⟨b, 0, none⟩)))
    (first
      | exact c0
      | exact c9
      | fail)
    ((first
      | (go_at_call 38
         (with_reducible refine HA.out.mono ?_)
         rintro e w' ⟨rfl, rfl⟩)
      | (go_at_call 37
         (first
           | (with_reducible refine HS.out.mono ?_)
           | (rw [hv]; (with_reducible refine HS.out.mono ?_)))
         intro e w6 he
         have he2 := HD.out e w6 he
         have HE := Lib.hid he2.2
         obtain ⟨rfl, Ft', -, -, hC'⟩ := he
         have c9 : w6.cell? ⟨d, 0, none⟩ = some (.pointer (some ⟨b, 0, none⟩)) := (World.cell?_of_block (a := ⟨d, 0, none⟩) (hC'.block d hdw hdF)).trans c0
         clear hC' he2)
      | fail))
  go_wp2_with fail
  go_ret
  obtain ⟨F', q1, q2, q3⟩ := HE.out
  exact ⟨rfl, F', q1, q2, q3.undrew⟩

theorem DEnds.undrew {d : Nat} {F sz : List Nat} {v : Value} {T : TM} {w w' : World} {e : Ending} (h : DEnds d F v sz T w.drew e w') : DEnds d F v sz T w e w' := by
  obtain ⟨h1, F', q1, q2, q3⟩ := h
  exact ⟨h1, F', q1, q2, q3.undrew⟩

/-- No block has gone. -/
def GeSize (w w' : World) : Prop := w.heap.size ≤ w'.heap.size

/-- What Drop and Only answer, and leave; x: what would be left. -/
def actC (sz : List Nat) (v k : Int) (x : Nat) : Int := if mayC sz v k = 0 then (if x = 0 then 3 else 0) else 2
def actT (sz : List Nat) (T : TM) (v k : Int) (x : Nat) : TM := if mayC sz v k = 0 ∧ x ≠ 0 then setT sz T v.toNat x else T
def actX (sz X : List Nat) (v k : Int) (x : Nat) : List Nat := if mayC sz v k = 0 ∧ x ≠ 0 then X.set v.toNat x else X

theorem mayC_yes {sz : List Nat} {v k : Int} (h : mayC sz v k = 0) : (0 ≤ v ∧ v < (sz.length : Int)) ∧ 0 ≤ k ∧ k < (sz.getD v.toNat 0 : Int) := by
  unfold mayC at h
  split at h
  · rename_i hc; exact ⟨of_decide_eq_true hc.1, hc.2⟩
  · cases h
theorem mayC_two {sz : List Nat} {v k : Int} (h : ¬ mayC sz v k = 0) : mayC sz v k = 2 := by
  unfold mayC at h ⊢
  split
  · rename_i hc; rw [if_pos hc] at h; exact absurd rfl h
  · rfl

theorem ddrop_any (d : Nat) (F sz X : List Nat) (T : TM) (v k : Int) (N : Nat) (w : World) (h : DomAt w d F sz T) (hk : DOk sz X T) (hok : T.ok N) (hN : N ≤ 1099511627776) :
    Calls Tryd.prog 12 #[.pointer (some ⟨d, 0, none⟩), .int .i64 v, .int .i64 k] w (DEnds d F (.int .i64 (actC sz v k (dropM (X.getD v.toNat 0) k.toNat))) sz (actT sz T v k (dropM (X.getD v.toNat 0) k.toNat)) w) := by
  have hM := dmay_any d F sz T v k w h
  unfold actC actT
  by_cases hm : mayC sz v k = 0
  · obtain ⟨⟨hv0, hv1⟩, hk0, hk1⟩ := mayC_yes hm
    rw [hm] at hM ⊢
    rw [if_pos rfl]
    obtain ⟨i, rfl⟩ := Int.eq_ofNat_of_zero_le hv0
    obtain ⟨j, rfl⟩ := Int.eq_ofNat_of_zero_le hk0
    rw [Int.toNat_natCast] at hk1 ⊢
    rw [Int.toNat_natCast]
    have hi : i < sz.length := by omega
    obtain ⟨⟨hs1, hs2⟩, hx1, hx2⟩ := hk.rng i hi
    have hf := full_lt _ hs2
    have hj : j < 60 := by omega
    have hL := dleft_any d i F sz X T w.drew h.drew hk hi
    have hle := dropM_le (X.getD i 0) j
    have hp := pow_lt62 hj
    have hpw := i64_pow j (by omega)
    generalize X.getD i 0 = x at *
    have hv := i64_andNot_nat x (2 ^ j) (by omega) (by omega)
    have hv2 : bits .andNot .i64 (x : Int) (IntKind.i64.wrap ((2 : Int) ^ j)) = (dropM x j : Nat) := by
      rw [hpw, hv]; rfl
    have hK : Calls Tryd.prog 29 #[.pointer (some ⟨d, 0, none⟩), .int .i64 i, .int .i64 (dropM x j : Nat)] w (DEnds d F (.int .i64 (if dropM x j = 0 then 3 else 0)) sz (if (0 : Int) = 0 ∧ dropM x j ≠ 0 then setT sz T i (dropM x j) else T) w) := by
      by_cases h0 : dropM x j = 0
      · rw [if_pos h0, if_neg (fun h => h.2 h0), h0]
        exact dkeep_none d i F sz T w h
      · rw [if_neg h0, if_pos ⟨rfl, h0⟩]
        exact dkeep_some d i _ F sz T N w h hi hs2 (by omega) (by omega) hok hN
    have HK := Lib.hid (fun W (hS : Same w W) => (show Calls Tryd.prog 29 #[.pointer (some ⟨d, 0, none⟩), .int .i64 i, .int .i64 (dropM x j : Nat)] W (DEnds d F (.int .i64 (if dropM x j = 0 then 3 else 0)) sz (if (0 : Int) = 0 ∧ dropM x j ≠ 0 then setT sz T i (dropM x j) else T) W) from by
      have h' := h.frame (w' := W) (fun q _ => hS.at q)
      by_cases h0 : dropM x j = 0
      · rw [if_pos h0, if_neg (fun h => h.2 h0), h0]
        exact dkeep_none d i F sz T W h'
      · rw [if_neg h0, if_pos ⟨rfl, h0⟩]
        exact dkeep_some d i _ F sz T N W h' hi hs2 (by omega) (by omega) hok hN))
    clear hK
    have HM := Lib.hid hM
    have HL := Lib.hid hL
    generalize (if dropM x j = 0 then (3 : Int) else 0) = cc at *
    generalize (if (0 : Int) = 0 ∧ dropM x j ≠ 0 then setT sz T i (dropM x j) else T) = TT at *
    generalize dropM x j = m at *
    have HV := Lib.hid hv2
    have q0 : (0 : Int) ≤ (j : Int) := by omega
    have s0 : GeSize w w := Nat.le_refl _
    clear hM hL hv hv2 hm hk1 hs1 hs2 hx1 hx2 hf hle hp hpw hv0 hv1 hk0 hk hok h
    go_enter Tryd.func12, Tryd.ntmps12
    go_wp2_with fail
    go_fit HM.out
    rintro e w' ⟨rfl, rfl⟩
    go_wp2_with fail
    go_region_held3 (fun w' => GeSize w w')
      (first
        | exact s6
        | exact s5
        | exact s0
        | fail)
      ((first
        | (go_at_call 30
           (with_reducible refine HL.out.mono ?_)
           rintro e w5 ⟨rfl, hS5⟩
           have HS5 := Lib.hid ((Same.refl w).drew.trans hS5)
           have HK5 := Lib.hid (HK.out w5 HS5.out)
           have s5 : GeSize w w5 := by unfold GeSize; rw [HS5.out.heap]; exact Nat.le_refl _
           clear hS5)
        | (go_at_call 29
           rw [HV.out]
           (with_reducible refine HK5.out.mono ?_)
           rintro e w6 ⟨rfl, hE⟩
           have HE := Lib.hid hE
           have s6 : GeSize w w6 := by unfold GeSize at s5 ⊢; obtain ⟨F', -, -, q3⟩ := hE; exact Nat.le_trans s5 q3.size
           clear hE)
        | fail))
    go_wp2_with fail
    go_ret
    obtain ⟨F', q1, q2, q3⟩ := HE.out
    have hz : w5.heap.size = w.heap.size := by rw [HS5.out.heap]
    exact ⟨rfl, F', q1, fun a ha => by rw [← hz]; exact q2 a ha, HS5.out.chg.trans q3⟩
  · rw [if_neg hm, if_neg (fun h => hm h.1)]
    have HD := Lib.hid h
    rw [mayC_two hm] at hM
    have HM := Lib.hid hM
    clear hM hm h hk hok
    go_enter Tryd.func12, Tryd.ntmps12
    go_wp2_with fail
    go_fit HM.out
    rintro e w' ⟨rfl, rfl⟩
    go_wp2_with fail
    go_ret
    exact dom_idle HD.out

theorem donly_any (d : Nat) (F sz X : List Nat) (T : TM) (v k : Int) (N : Nat) (w : World) (h : DomAt w d F sz T) (hk : DOk sz X T) (hok : T.ok N) (hN : N ≤ 1099511627776) :
    Calls Tryd.prog 14 #[.pointer (some ⟨d, 0, none⟩), .int .i64 v, .int .i64 k] w (DEnds d F (.int .i64 (actC sz v k (onlyM (X.getD v.toNat 0) k.toNat))) sz (actT sz T v k (onlyM (X.getD v.toNat 0) k.toNat)) w) := by
  have hM := dmay_any d F sz T v k w h
  unfold actC actT
  by_cases hm : mayC sz v k = 0
  · obtain ⟨⟨hv0, hv1⟩, hk0, hk1⟩ := mayC_yes hm
    rw [hm] at hM ⊢
    rw [if_pos rfl]
    obtain ⟨i, rfl⟩ := Int.eq_ofNat_of_zero_le hv0
    obtain ⟨j, rfl⟩ := Int.eq_ofNat_of_zero_le hk0
    rw [Int.toNat_natCast] at hk1 ⊢
    rw [Int.toNat_natCast]
    have hi : i < sz.length := by omega
    obtain ⟨⟨hs1, hs2⟩, hx1, hx2⟩ := hk.rng i hi
    have hf := full_lt _ hs2
    have hj : j < 60 := by omega
    have hL := dleft_any d i F sz X T w.drew h.drew hk hi
    have hle := onlyM_le (X.getD i 0) j
    have hp := pow_lt62 hj
    have hpw := i64_pow j (by omega)
    generalize X.getD i 0 = x at *
    have hv := i64_and_nat x (2 ^ j) (by omega) (by omega)
    have hv2 : bits .and .i64 (x : Int) (IntKind.i64.wrap ((2 : Int) ^ j)) = (onlyM x j : Nat) := by
      rw [hpw, hv]; rfl
    have hK : Calls Tryd.prog 29 #[.pointer (some ⟨d, 0, none⟩), .int .i64 i, .int .i64 (onlyM x j : Nat)] w (DEnds d F (.int .i64 (if onlyM x j = 0 then 3 else 0)) sz (if (0 : Int) = 0 ∧ onlyM x j ≠ 0 then setT sz T i (onlyM x j) else T) w) := by
      by_cases h0 : onlyM x j = 0
      · rw [if_pos h0, if_neg (fun h => h.2 h0), h0]
        exact dkeep_none d i F sz T w h
      · rw [if_neg h0, if_pos ⟨rfl, h0⟩]
        exact dkeep_some d i _ F sz T N w h hi hs2 (by omega) (by omega) hok hN
    have HK := Lib.hid (fun W (hS : Same w W) => (show Calls Tryd.prog 29 #[.pointer (some ⟨d, 0, none⟩), .int .i64 i, .int .i64 (onlyM x j : Nat)] W (DEnds d F (.int .i64 (if onlyM x j = 0 then 3 else 0)) sz (if (0 : Int) = 0 ∧ onlyM x j ≠ 0 then setT sz T i (onlyM x j) else T) W) from by
      have h' := h.frame (w' := W) (fun q _ => hS.at q)
      by_cases h0 : onlyM x j = 0
      · rw [if_pos h0, if_neg (fun h => h.2 h0), h0]
        exact dkeep_none d i F sz T W h'
      · rw [if_neg h0, if_pos ⟨rfl, h0⟩]
        exact dkeep_some d i _ F sz T N W h' hi hs2 (by omega) (by omega) hok hN))
    clear hK
    have HM := Lib.hid hM
    have HL := Lib.hid hL
    generalize (if onlyM x j = 0 then (3 : Int) else 0) = cc at *
    generalize (if (0 : Int) = 0 ∧ onlyM x j ≠ 0 then setT sz T i (onlyM x j) else T) = TT at *
    generalize onlyM x j = m at *
    have HV := Lib.hid hv2
    have q0 : (0 : Int) ≤ (j : Int) := by omega
    have s0 : GeSize w w := Nat.le_refl _
    clear hM hL hv hv2 hm hk1 hs1 hs2 hx1 hx2 hf hle hp hpw hv0 hv1 hk0 hk hok h
    go_enter Tryd.func14, Tryd.ntmps14
    go_wp2_with fail
    go_fit HM.out
    rintro e w' ⟨rfl, rfl⟩
    go_wp2_with fail
    go_region_held3 (fun w' => GeSize w w')
      (first
        | exact s6
        | exact s5
        | exact s0
        | fail)
      ((first
        | (go_at_call 30
           (with_reducible refine HL.out.mono ?_)
           rintro e w5 ⟨rfl, hS5⟩
           have HS5 := Lib.hid ((Same.refl w).drew.trans hS5)
           have HK5 := Lib.hid (HK.out w5 HS5.out)
           have s5 : GeSize w w5 := by unfold GeSize; rw [HS5.out.heap]; exact Nat.le_refl _
           clear hS5)
        | (go_at_call 29
           rw [HV.out]
           (with_reducible refine HK5.out.mono ?_)
           rintro e w6 ⟨rfl, hE⟩
           have HE := Lib.hid hE
           have s6 : GeSize w w6 := by unfold GeSize at s5 ⊢; obtain ⟨F', -, -, q3⟩ := hE; exact Nat.le_trans s5 q3.size
           clear hE)
        | fail))
    go_wp2_with fail
    go_ret
    obtain ⟨F', q1, q2, q3⟩ := HE.out
    have hz : w5.heap.size = w.heap.size := by rw [HS5.out.heap]
    exact ⟨rfl, F', q1, fun a ha => by rw [← hz]; exact q2 a ha, HS5.out.chg.trans q3⟩
  · rw [if_neg hm, if_neg (fun h => hm h.1)]
    have HD := Lib.hid h
    rw [mayC_two hm] at hM
    have HM := Lib.hid hM
    clear hM hm h hk hok
    go_enter Tryd.func14, Tryd.ntmps14
    go_wp2_with fail
    go_fit HM.out
    rintro e w' ⟨rfl, rfl⟩
    go_wp2_with fail
    go_ret
    exact dom_idle HD.out

end Go.Proofs.YtifjjcenmilohaaDoor
