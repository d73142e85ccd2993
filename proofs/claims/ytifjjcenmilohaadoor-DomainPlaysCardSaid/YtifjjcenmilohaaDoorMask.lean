/- Masks of at most sixty bits, in plain Lean. No program is walked here; no condition but those in each statement. -/
import Derived.Test.YtifjjcenmilohaaDoorTz
import Derived.Test.YtifjjcenmilohaaDoorDomA
import Derived.Lib.QuoteBits
namespace Go.Proofs.YtifjjcenmilohaaDoor
open Go.RowKit

def andN (a b : Nat) : Nat := a &&& (18446744073709551615 - b)
theorem andN_bit (a b : Nat) (ha : a < 2 ^ 64) (hb : b < 2 ^ 64) (i : Nat) : (andN a b).testBit i = (a.testBit i && !b.testBit i) := by
  unfold andN
  rw [Nat.testBit_and, show (18446744073709551615 - b) = 2 ^ 64 - (b + 1) by omega, Nat.testBit_two_pow_sub_succ hb]
  by_cases h : i < 64
  · simp [h]
  · have : a.testBit i = false := Nat.testBit_lt_two_pow (Nat.lt_of_lt_of_le ha (Nat.pow_le_pow_right (by decide) (by omega)))
    simp [this]
theorem andN_le (a b : Nat) : andN a b ≤ a := Nat.and_le_left
theorem i64_andNot_nat (a b : Nat) (ha : a < 2 ^ 62) (hb : b < 2 ^ 62) : bits .andNot .i64 (a : Int) (b : Int) = (andN a b : Int) := by
  show IntKind.i64.wrap ((BitVec.ofInt 64 (a : Int) &&& ~~~BitVec.ofInt 64 (b : Int)).toNat : Int) = _
  have e : 2 ^ 64 - 1 - b = 18446744073709551615 - b := by omega
  rw [BitVec.toNat_and, BitVec.toNat_not, ofInt_u64 a (by omega), ofInt_u64 b (by omega), e]
  exact Lib.wrap_i64_small _ (by have := andN_le a b; unfold andN at this; omega)
theorem i64_and_nat (a b : Nat) (ha : a < 2 ^ 62) (hb : b < 2 ^ 62) : bits .and .i64 (a : Int) (b : Int) = ((a &&& b : Nat) : Int) := by
  show IntKind.i64.wrap ((BitVec.ofInt 64 (a : Int) &&& BitVec.ofInt 64 (b : Int)).toNat : Int) = _
  rw [BitVec.toNat_and, ofInt_u64 a (by omega), ofInt_u64 b (by omega)]
  exact Lib.wrap_i64_small _ (by have := Nat.and_le_left (n := a) (m := b); omega)
theorem i64_pow (k : Nat) (hk : k < 62) : IntKind.i64.wrap (2 ^ k) = ((2 ^ k : Nat) : Int) := by
  have h : 2 ^ k < 2 ^ 62 := Nat.pow_lt_pow_right (by decide) hk
  have e : (2 : Int) ^ k = ((2 ^ k : Nat) : Int) := by simp
  rw [e]
  exact Lib.wrap_i64_small _ (by omega)

/-- All of s bits. -/
def full (s : Nat) : Nat := 2 ^ s - 1
theorem full_bit (s i : Nat) : (full s).testBit i = decide (i < s) := by unfold full; rw [Nat.testBit_two_pow_sub_one]
theorem full_lt (s : Nat) (hs : s ≤ 60) : full s < 2 ^ 60 := by
  have := Nat.pow_le_pow_right (n := 2) (by decide) hs
  have h2 : 0 < 2 ^ s := Nat.pos_of_ne_zero (by simp)
  unfold full; omega
theorem lt_full {s x : Nat} (hx : x ≤ full s) : x < 2 ^ s := by
  have h2 : 0 < 2 ^ s := Nat.pos_of_ne_zero (by simp)
  unfold full at hx; omega
theorem bit_out {s x i : Nat} (hx : x ≤ full s) (hi : s ≤ i) : x.testBit i = false :=
  Nat.testBit_lt_two_pow (Nat.lt_of_lt_of_le (lt_full hx) (Nat.pow_le_pow_right (by decide) hi))
/-- What is gone of what is left, and back. -/
theorem gone_gone {s x : Nat} (hs : s ≤ 60) (hx : x ≤ full s) : andN (full s) (andN (full s) x) = x := by
  have hf := full_lt s hs
  have h1 := andN_le (full s) x
  refine Nat.eq_of_testBit_eq fun i => ?_
  rw [andN_bit _ _ (by omega) (by omega), andN_bit _ _ (by omega) (by omega), full_bit]
  by_cases hi : i < s
  · simp [hi]
  · rw [bit_out hx (show s ≤ i by omega)]; simp [hi]
theorem full_zero {s : Nat} (hs : s ≤ 60) : andN (full s) 0 = full s := by
  have hf := full_lt s hs
  refine Nat.eq_of_testBit_eq fun i => ?_
  rw [andN_bit _ _ (by omega) (by decide)]; simp
theorem andN_full {s : Nat} (hs : s ≤ 60) : andN (full s) (full s) = 0 := by
  have hf := full_lt s hs
  refine Nat.eq_of_testBit_eq fun i => ?_
  rw [andN_bit _ _ (by omega) (by omega)]; simp
theorem pow_lt62 {k : Nat} (hk : k < 60) : 2 ^ k < 2 ^ 60 := Nat.pow_lt_pow_right (by decide) hk
def dropM (x k : Nat) : Nat := andN x (2 ^ k)
def onlyM (x k : Nat) : Nat := x &&& 2 ^ k
theorem dropM_le (x k : Nat) : dropM x k ≤ x := andN_le _ _
theorem onlyM_le (x k : Nat) : onlyM x k ≤ x := Nat.and_le_left
theorem dropM_bit {x k : Nat} (hx : x < 2 ^ 60) (hk : k < 60) (i : Nat) : (dropM x k).testBit i = (x.testBit i && !decide (k = i)) := by
  have := pow_lt62 hk
  unfold dropM
  rw [andN_bit _ _ (by omega) (by omega), Nat.testBit_two_pow]
theorem onlyM_bit (x k i : Nat) : (onlyM x k).testBit i = (x.testBit i && decide (k = i)) := by
  unfold onlyM
  rw [Nat.testBit_and, Nat.testBit_two_pow]
end Go.Proofs.YtifjjcenmilohaaDoor
