/- The chapter's example holds, and a store that is none gives nothing: walks of works and FuelNone. No condition. -/
import Derived.Test.YthmbkdlgelmglaaFuelA
namespace Go.Proofs.Ythmbkdlgelmglaa
open Go.RowKit

theorem works_any (w : World) :
    Calls Try.prog 8 #[] w fun e w' => e = .returned (.bool true) ∧ Below w.heap.size w w' := by
  go_enter Try.func8, Try.ntmps8
  go_wp2_with fail
  refine (new_ok 3 _ (by omega)).mono ?_
  rintro e w1 ⟨rfl, h1⟩
  have hF : FuelAt w1 w.heap.size ⟨3, 0, false⟩ := by subst h1; exact heap_new _ _
  have hB1 : Below w.heap.size w w1 := by subst h1; exact (Below.refl _ _).alloc (Nat.le_refl _) _
  clear h1
  go_wp2_with fail
  refine (show Calls _ _ _ w1 (TakeEnds w.heap.size (0, ⟨1, 2, false⟩) w1) from take_ok _ _ 2 _ hF (by decide) rfl (by decide) (by decide) (by decide)).mono ?_
  rintro e w2 ⟨rfl, hF2, hC2⟩
  go_wp2_with fail
  refine (show Calls _ _ _ w2 (TakeEnds w.heap.size (13, ⟨0, 3, true⟩) w2) from take_over _ _ 2 _ hF2 (by decide) rfl (by decide) (by decide) (by decide) (by decide)).mono ?_
  rintro e w3 ⟨rfl, hF3, hC3⟩
  go_wp2_with fail
  refine (used_any _ _ _ hF3).mono ?_
  rintro e w' ⟨rfl, rfl⟩
  go_wp2_with fail
  refine (left_any _ _ _ hF3).mono ?_
  rintro e w' ⟨rfl, rfl⟩
  go_wp2_with fail
  refine (spent_any _ _ _ hF3).mono ?_
  rintro e w' ⟨rfl, rfl⟩
  go_wp2_with fail
  go_ret
  have hs := hB1.size
  have hs2 := hC2.size
  exact ⟨rfl, (hB1.trans (below_of_chg hC2 (Nat.le_refl _) hs)).trans (below_of_chg hC3 (Nat.le_refl _) (by omega))⟩

theorem none_any (n : Int) (w : World) (_ : (Lit.int .i64 n).wf = true) :
    Calls Try.prog 5 #[.int .i64 n] w fun e w' => e = .returned (.bool true) ∧ Below w.heap.size w w' := by
  go_enter Try.func5, Try.ntmps5
  go_wp2_with fail
  refine (take_nil n _).mono ?_
  rintro e w1 ⟨rfl, hB1⟩
  have hN : NoneAt w1 w.heap.size := (hB1.block _ (by simp)).trans (heap_new _ _)
  have hb1 : w.heap.size + 1 ≤ w1.heap.size := by have := hB1.size; simpa using this
  replace hB1 : Below w.heap.size w w1 := ((Below.refl _ _).alloc (Nat.le_refl _) _).trans (hB1.mono (by simp))
  go_wp2_with fail
  refine (take_none _ n _ hN).mono ?_
  rintro e w2 ⟨rfl, hB2⟩
  have hN2 : NoneAt w2 w.heap.size := (hB2.block _ (by omega)).trans hN
  have hs2 := hB2.size
  replace hB2 : Below w.heap.size w w2 := hB1.trans (hB2.mono (by omega))
  clear hN
  go_wp2_with fail
  refine (left_nil _).mono ?_
  rintro e w' ⟨rfl, rfl⟩
  go_wp2_with fail
  refine (used_nil _).mono ?_
  rintro e w' ⟨rfl, rfl⟩
  go_wp2_with fail
  refine (left_none _ _ hN2).mono ?_
  rintro e w' ⟨rfl, rfl⟩
  go_wp2_with fail
  refine (used_none _ _ hN2).mono ?_
  rintro e w' ⟨rfl, rfl⟩
  go_wp2_with fail
  refine (spent_nil _).mono ?_
  rintro e w' ⟨rfl, rfl⟩
  go_wp2_with fail
  refine (spent_none _ _ hN2).mono ?_
  rintro e w' ⟨rfl, rfl⟩
  go_wp2_with fail
  refine (works_any _).mono ?_
  rintro e w3 ⟨rfl, hB3⟩
  go_wp2_with fail
  go_ret
  exact ⟨rfl, hB2.trans (hB3.mono (by omega))⟩
end Go.Proofs.Ythmbkdlgelmglaa
