/- TrailingZeros64 where its table lies; a word's bits in rising order. No condition but those in each statement. -/
import Derived.BigRegion
import Derived.Laws.BitsAllLaws
import Derived.Laws.BitsLemmas
import Derived.Laws.OwnMore
import Derived.Outline
import Derived.RegionTactic
import Derived.Shelf.Spec.TrailingZeros
import Derived.Test.YtifjjcenmilohaaDoorRegion
import Derived.Test.YtifjjcenmilohaaDoorSame
import Derived.Test.YtifjjcenmilohaaDoorTrailH
namespace Go.Proofs.YtifjjcenmilohaaDoor
open Go.RowKit

def TabIs (w : World) : Prop := TabAt 1 Lib.deBruijn64tab w

theorem tz_core (x k idx : Nat) (w : World) (hx0 : ((x : Int) == 0) = false)
    (key : IntKind.u64.wrap (bits BinOp.and IntKind.u64 (x : Int) (IntKind.u64.wrap (-(x : Int))) * 285870213051353865) / 288230376151711744 = (idx : Int))
    (hi : idx < 64) (hk : k < 64) (hcell : w.cell? ⟨1, idx, none⟩ = some (.int .u8 k)) :
    Calls Tryd.prog 43 #[.int .u64 x] w fun e w' => e = .returned (.int .i64 k) ∧ w = w' := by
  go_enter Tryd.func43, Tryd.ntmps43
  go_wp2_with (simp only [key])
  go_ret
  exact ⟨rfl, rfl⟩

theorem tz_any (x : Nat) (hx : x < 2 ^ 64) (h0 : x ≠ 0) (w : World) (hT : TabIs w) :
    Calls Tryd.prog 43 #[.int .u64 x] w fun e w' => e = .returned (.int .i64 (Lib.ctz 64 x)) ∧ w = w' := by
  obtain ⟨hlow, hk⟩ := Lib.lowest_bit 64 x h0 hx
  obtain ⟨hi, htab⟩ := Lib.deBruijn64_at _ hk
  have hcell := hT _ hi
  rw [htab] at hcell
  exact tz_core x _ _ w (by simp; omega) (tz64_key x _ hx h0 hlow) hi hk hcell

/-- A word's bits, rising. -/
def bitL (x : Nat) : List Nat := (List.range 64).filter fun i => x.testBit i

theorem ctz_bit (x : Nat) (h0 : x ≠ 0) (hx : x < 2 ^ 64) : x.testBit (Lib.ctz 64 x) = true ∧ Lib.ctz 64 x < 64 ∧ ∀ i, i < Lib.ctz 64 x → x.testBit i = false := by
  obtain ⟨m, hm, hlt⟩ := Lib.ctzFrom_spec 64 x (by omega) hx
  have hc : Lib.ctz 64 x = Lib.ctzFrom 64 x := by unfold Lib.ctz; rw [if_neg h0]
  rw [hc]
  refine ⟨?_, hlt, fun i hi => ?_⟩
  · generalize Lib.ctzFrom 64 x = k at hm
    rw [hm, Nat.testBit_two_pow_mul]
    simp
  · generalize Lib.ctzFrom 64 x = k at hm hi
    rw [hm, Nat.testBit_two_pow_mul]
    simp; omega

theorem and_pred (x : Nat) (h0 : x ≠ 0) (hx : x < 2 ^ 64) (i : Nat) : (x &&& (x - 1)).testBit i = (x.testBit i && !decide (i = Lib.ctz 64 x)) := by
  obtain ⟨m, hm, hlt⟩ := Lib.ctzFrom_spec 64 x (by omega) hx
  have hc : Lib.ctz 64 x = Lib.ctzFrom 64 x := by unfold Lib.ctz; rw [if_neg h0]
  rw [hc]
  generalize Lib.ctzFrom 64 x = k at hm
  have hp : 0 < 2 ^ k := Nat.two_pow_pos k
  have e1 : x = 2 ^ k * (2 * m + 1) + 0 := by omega
  have e2 : x - 1 = 2 ^ k * (2 * m) + (2 ^ k - 1) := by rw [hm, Nat.mul_add]; omega
  rw [Nat.testBit_and, e2, Nat.testBit_two_pow_mul_add _ (by omega), hm, Nat.testBit_two_pow_mul]
  by_cases hik : i < k
  · simp [hik]; omega
  · by_cases he : i = k
    · subst he; simp
    · have h1 : i - k = (i - k - 1) + 1 := by omega
      have : k ≤ i := by omega
      simp only [hik, this, he, if_false, decide_true, decide_false, Bool.true_and, Bool.not_false, Bool.and_true]
      rw [h1, Nat.testBit_succ, Nat.testBit_succ, show (2 * m + 1) / 2 = m by omega, show 2 * m / 2 = m by omega]
      simp

theorem filter_range_first (n k : Nat) (p : Nat → Bool) (hk : k < n) (hp : p k = true) (hb : ∀ i, i < k → p i = false) :
    (List.range n).filter p = k :: (List.range n).filter fun i => p i && !decide (i = k) := by
  have e : List.range n = List.range k ++ k :: (List.range (n - k - 1)).map (k + 1 + ·) := by
    refine List.ext_getElem (by simp; omega) fun i h1 h2 => ?_
    simp only [List.length_range] at h1
    rw [List.getElem_append]
    split
    · simp
    · rename_i hge
      simp only [List.length_range] at hge
      rcases Nat.eq_or_lt_of_le (Nat.le_of_not_lt hge) with h | h
      · subst h; simp
      · obtain ⟨d, rfl⟩ : ∃ d, i = k + 1 + d := ⟨i - k - 1, by omega⟩
        simp [show k + 1 + d - k = d + 1 by omega]
  rw [e, List.filter_append, List.filter_append]
  have n1 : (List.range k).filter p = [] := List.filter_eq_nil_iff.2 fun i hi => by simp [hb i (by simpa using hi)]
  have n2 : ((List.range k).filter fun i => p i && !decide (i = k)) = [] := List.filter_eq_nil_iff.2 fun i hi => by simp [hb i (by simpa using hi)]
  rw [n1, n2]
  simp only [List.nil_append, List.filter_cons, hp, if_true, decide_true, Bool.not_true, Bool.and_false]
  simp only [Bool.false_eq_true, if_false, List.cons.injEq, true_and]
  refine List.filter_congr fun i hi => ?_
  obtain ⟨d, -, rfl⟩ := List.mem_map.1 hi
  simp; omega

theorem bitL_zero : bitL 0 = [] := by simp [bitL]
theorem bitL_step (x : Nat) (h0 : x ≠ 0) (hx : x < 2 ^ 64) : bitL x = Lib.ctz 64 x :: bitL (x &&& (x - 1)) := by
  obtain ⟨h1, h2, h3⟩ := ctz_bit x h0 hx
  unfold bitL
  rw [filter_range_first 64 _ _ h2 h1 h3]
  congr 2
  funext i
  rw [and_pred x h0 hx]
end Go.Proofs.YtifjjcenmilohaaDoor
