/- BitsChange answers true, whatever comes in, where the table lies. No condition but that in the statement. -/
import Derived.Test.YtafdijcolponjaaDoorBitsE
namespace Go.Proofs.YtafdijcolponjaaDoor
open Go.RowKit

def memZ (ws : List Nat) (z : Int) : Bool := decide (0 ≤ z ∧ z < 500) && mem ws z.toNat
theorem has_any (b : Nat) (z : Int) (ws : List Nat) (w : World) (h : SetAt w b ws) :
    Calls Tryd.prog 24 #[.pointer (some ⟨b, 0, none⟩), .int .i64 z] w fun e w' => e = .returned (.bool (memZ ws z)) ∧ w = w' := by
  unfold memZ
  by_cases hz : 0 ≤ z ∧ z < 500
  · obtain ⟨n, rfl⟩ := Int.eq_ofNat_of_zero_le hz.1
    rw [decide_eq_true hz]
    exact has_yes b n ws w h (by omega)
  · rw [decide_eq_false hz]
    exact has_no b z w (by omega)

theorem memZ_put {ws : List Nat} (h : ws.length = 8) {z : Int} (hz : 0 ≤ z ∧ z < 500) (y : Int) : memZ (put1 ws z) y = (decide (y = z) || memZ ws y) := by
  obtain ⟨n, rfl⟩ := Int.eq_ofNat_of_zero_le hz.1
  unfold memZ put1
  rw [if_pos hz, Int.toNat_natCast, mem_put (by omega)]
  by_cases hy : 0 ≤ y ∧ y < 500
  · obtain ⟨m, rfl⟩ := Int.eq_ofNat_of_zero_le hy.1
    rw [decide_eq_true hy]
    simp only [Int.toNat_natCast, Bool.true_and, Int.ofNat_inj]
  · rw [decide_eq_false hy, Bool.false_and, Bool.false_and, Bool.or_false]
    refine (decide_eq_false ?_).symm
    rintro rfl
    exact hy hz
theorem memZ_drop {ws : List Nat} (h : ws.length = 8) {n : Nat} (hn : n < 500) (y : Int) : memZ (dropW ws n) y = (!decide (y = (n : Int)) && memZ ws y) := by
  unfold memZ
  rw [mem_drop (by omega)]
  by_cases hy : 0 ≤ y ∧ y < 500
  · obtain ⟨m, rfl⟩ := Int.eq_ofNat_of_zero_le hy.1
    rw [decide_eq_true hy]
    simp only [Int.toNat_natCast, Bool.true_and, Int.ofNat_inj]
  · rw [decide_eq_false hy, Bool.false_and, Bool.false_and, Bool.and_false]
theorem memZ_out (ws : List Nat) {z : Int} (hz : ¬ (0 ≤ z ∧ z < 500)) : memZ ws z = false := by
  unfold memZ; rw [decide_eq_false hz, Bool.false_and]

theorem change_any (a : Option Addr) (len cap : Nat) (l : List Int) (n m : Int) (w : World) (h : Src w a len cap 1 (intl l)) (hT : TabIs w) :
    Calls Tryd.prog 3 #[.slice a len cap, .int .i64 n, .int .i64 m] w (YesEnds w) := by
  have hw := works_any w hT
  have HW := Lib.hid hw
  have HS := Lib.hid h
  have hlt : ∀ ad, a = some ad → len ≠ 0 → ad.block < w.heap.size := by
    intro ad ha hl
    subst ha
    obtain ⟨v, hv⟩ : ∃ v, (intl l)[0]? = some v := by
      have := h.1
      exact ⟨_, List.getElem?_eq_getElem (by omega)⟩
    have := h.2.2.2.2.1 ad rfl 0 v hv
    have := World.block_lt_of_cell? w _ this
    simpa [Addr.add] using this
  have HL := Lib.hid hlt
  clear hw hT h hlt
  go_enter Tryd.func3, Tryd.ntmps3
  go_wp2_with fail
  go_fit HW.out
  rintro e w1 ⟨rfl, hB1⟩
  have HF := Lib.hid (few_any a len cap l w1 (HS.out.of_block fun ad ha hl => hB1.block _ (HL.out ad ha (by simpa using hl))))
  have HB1 := Lib.hid hB1
  clear hB1
  go_wp2_with fail
  go_fit HF.out
  rintro e w2 ⟨g, c, rfl, hB2, hg, hsrc⟩
  generalize l.take 100 = q at *
  have HN := Lib.hid (new_any _ _ _ _ _ hsrc)
  have HB2 := Lib.hid (HB1.out.trans (hB2.mono HB1.out.size))
  clear hB2 hg hsrc
  go_wp2_with fail
  go_fit HN.out
  rintro e w3 ⟨rfl, hS3, hB3⟩
  generalize newW q = ws at hS3
  generalize hb : w2.heap.size = b at hS3 hB3
  have HB3 := Lib.hid (HB2.out.trans (hB3.mono (by have := HB2.out.size; omega)))
  have hbw : w.heap.size ≤ b := by have := HB2.out.size; omega
  have HBW := Lib.hid hbw
  have HL8 := Lib.hid hS3.2.1
  have HH := Lib.hid (has_any b m ws w3 hS3)
  have HS3 := Lib.hid hS3
  clear hb hB3 hbw hS3
  go_wp2_with fail
  go_fit HH.out
  rintro e w4 ⟨rfl, rfl⟩
  by_cases hn : 0 ≤ n ∧ n < 500
  · obtain ⟨k, rfl⟩ := Int.eq_ofNat_of_zero_le hn.1
    have hk : k < 500 := by omega
    have HP := Lib.hid (put_yes b k ws w3 HS3.out hk)
    have e0 : putW ws k = put1 ws (k : Int) := by unfold put1; rw [if_pos hn]; rfl
    have hn1 := memZ_put HL8.out hn (k : Int)
    rw [decide_eq_true rfl, Bool.true_or, ← e0] at hn1
    have hm1 := memZ_put HL8.out hn m
    rw [← e0] at hm1
    have HN1 := Lib.hid hn1
    have HM1 := Lib.hid hm1
    have hl2 : (putW ws k).length = 8 := by simp [putW, HL8.out]
    have hn2 := memZ_drop hl2 hk (k : Int)
    rw [decide_eq_true rfl, Bool.not_true, Bool.false_and] at hn2
    have hm2 := memZ_drop hl2 hk m
    have HN2 := Lib.hid hn2
    have HM2 := Lib.hid hm2
    clear hn hn1 hm1 hn2 hm2 hl2 e0
    go_wp2_with fail
    go_fit HP.out
    rintro e w5 ⟨rfl, hS5, hC5⟩
    have h5n := has_any b k _ w5 hS5
    rw [HN1.out] at h5n
    have H5N := Lib.hid h5n
    have H5M := Lib.hid (has_any b m _ w5 hS5)
    have HD := Lib.hid (drop_yes b k _ w5 hS5 hk)
    have HC5 := Lib.hid (HB3.out.trans (below_of_chg hC5 HBW.out HB3.out.size))
    clear h5n hS5 hC5
    by_cases hmk : m = (k : Int)
    · subst hmk
      go_wp2_with fail
      go_fit H5N.out
      rintro e w6 ⟨rfl, rfl⟩
      go_wp2_with fail
      go_fit HD.out
      rintro e w6 ⟨rfl, hS6, hC6⟩
      have h6n := has_any b k _ w6 hS6
      rw [HN2.out] at h6n
      have H6N := Lib.hid h6n
      have HC6 := Lib.hid (HC5.out.trans (below_of_chg hC6 HBW.out HC5.out.size))
      clear h6n hS6 hC6
      go_wp2_with fail
      go_fit H6N.out
      rintro e w7 ⟨rfl, rfl⟩
      go_wp2_with fail
      go_ret
      exact ⟨rfl, HC6.out⟩
    · have hm1 := HM1.out
      rw [decide_eq_false hmk, Bool.false_or] at hm1
      have hm2 := HM2.out
      rw [decide_eq_false hmk, hm1, Bool.not_false, Bool.true_and] at hm2
      rw [hm1] at H5M
      clear HM1 HM2
      have HM2 := Lib.hid hm2
      clear hm1 hm2
      generalize memZ ws m = was at *
      go_wp2_with fail
      go_fit H5N.out
      rintro e w6 ⟨rfl, rfl⟩
      go_wp2_with fail
      go_fit H5M.out
      rintro e w6 ⟨rfl, rfl⟩
      go_wp2_with fail
      go_fit HD.out
      rintro e w6 ⟨rfl, hS6, hC6⟩
      have h6n := has_any b k _ w6 hS6
      rw [HN2.out] at h6n
      have H6N := Lib.hid h6n
      have h6m := has_any b m _ w6 hS6
      rw [HM2.out] at h6m
      have H6M := Lib.hid h6m
      have HC6 := Lib.hid (HC5.out.trans (below_of_chg hC6 HBW.out HC5.out.size))
      clear h6n h6m hS6 hC6
      go_wp2_with fail
      go_fit H6N.out
      rintro e w7 ⟨rfl, rfl⟩
      go_wp2_with fail
      go_fit H6M.out
      rintro e w7 ⟨rfl, rfl⟩
      go_wp2_with fail
      go_ret
      exact ⟨ret_bool (by simp), HC6.out⟩
  · have HP := Lib.hid (put_no b n w3 (by omega))
    have HN := Lib.hid (has_any b n ws w3 HS3.out)
    rw [memZ_out ws hn] at HN
    clear hn
    go_wp2_with fail
    go_fit HP.out
    rintro e w5 ⟨rfl, rfl⟩
    go_wp2_with fail
    go_fit HN.out
    rintro e w6 ⟨rfl, rfl⟩
    go_wp2_with fail
    go_fit HH.out
    rintro e w7 ⟨rfl, rfl⟩
    go_wp2_with fail
    go_ret
    exact ⟨ret_bool (by simp), HB3.out⟩

theorem change_walk (a : Option Addr) (len cap : Nat) (zs : List Int) (n m : Int) (w : World) (h : IsRow .i64 w a len cap zs) (_hn : (Lit.int .i64 n).wf = true) (_hm : (Lit.int .i64 m).wf = true) (hT : TabIs w) :
    Calls Tryd.prog 3 #[.slice a len cap, .int .i64 n, .int .i64 m] w (YesEnds w) :=
  change_any a len cap (zs.take len) n m w (h.src (Nat.le_refl _)) hT
end Go.Proofs.YtafdijcolponjaaDoor
