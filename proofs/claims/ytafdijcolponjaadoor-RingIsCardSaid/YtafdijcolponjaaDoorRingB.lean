/- The contracts of bits.Mul at small numbers, and of slices.Repeat of one number. Conditions: those in each statement. -/
import Derived.Test.YtafdijcolponjaaDoorRingF

import Derived.Laws.CopyOwn
import Derived.Deep.RegionLaw
namespace Go.Proofs.YtafdijcolponjaaDoor
open Go.RowKit

theorem u64_mask (n : Nat) (hn : n ≤ 500) : bits .and .u64 (n : Int) 4294967295 = (n : Int) := by
  rw [show (4294967295 : Int) = ((4294967295 : Nat) : Int) from rfl, u64_and_nat _ _ (by omega) (by omega)]
  congr 1
  refine Nat.eq_of_testBit_eq fun i => ?_
  rw [Nat.testBit_and, show 4294967295 = 2 ^ 32 - 1 from rfl, Nat.testBit_two_pow_sub_one]
  by_cases h : i < 32
  · simp [h]
  · rw [Nat.testBit_lt_two_pow (Nat.lt_of_lt_of_le (show n < 2 ^ 9 by omega) (Nat.pow_le_pow_right (by decide) (by omega)))]; simp
set_option maxRecDepth 20000 in
theorem mul64_one (n : Nat) (hn : n ≤ 500) (w : World) :
    Calls Tryd.prog 116 #[.int .u64 1, .int .u64 n] w fun e w' => e = .returned (.tuple #[.int .u64 0, .int .u64 n]) ∧ w = w' := by
  have h1 : bits .and .u64 1 4294967295 = 1 := u64_mask 1 (by omega)
  have h0 : bits .and .u64 0 4294967295 = 0 := u64_mask 0 (by omega)
  have h2 := u64_mask n hn
  have h3 : (n : Int) / 4294967296 = 0 := by omega
  have h4 : (n : Int) / 2 ^ 32 = 0 := by omega
  have hn0 : (0 : Int) ≤ (n : Int) := by omega
  have hn1 : (n : Int) ≤ 500 := by omega
  go_enter Tryd.func116, Tryd.ntmps116
  go_wp2_with fail
  go_ret2
  exact ⟨rfl, rfl⟩
theorem mul_one_any (n : Nat) (hn : n ≤ 500) (w : World) :
    Calls Tryd.prog 114 #[.int .u64 1, .int .u64 n] w fun e w' => e = .returned (.tuple #[.int .u64 0, .int .u64 n]) ∧ w = w' := by
  have H := Lib.hid (mul64_one n hn w)
  go_enter Tryd.func114, Tryd.ntmps114
  go_wp2_with fail
  go_fit H.out
  rintro e w' ⟨rfl, rfl⟩
  go_wp2_with fail
  go_ret2
  exact ⟨rfl, rfl⟩
end Go.Proofs.YtafdijcolponjaaDoor
