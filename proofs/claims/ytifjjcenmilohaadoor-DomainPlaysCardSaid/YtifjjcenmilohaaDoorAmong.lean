/- base.Among tells a number from 0 to n - 1. Condition: n is at least 1. -/
import Derived.Test.YtifjjcenmilohaaDoorBase
import Derived.OpenShut
namespace Go.Proofs.YtifjjcenmilohaaDoor
open Go.RowKit

def AmongEnds (n : Int) (w : World) (e : Ending) (w' : World) : Prop := ∃ d : Int, 0 ≤ d ∧ d < n ∧ e = .returned (.int .i64 d) ∧ w = w'

theorem among_any (x n : Int) (w : World) (hx : (Lit.int .i64 x).wf = true) (hn : 1 ≤ n) (hm : n ≤ 9223372036854775807) :
    Calls Tryd.prog 11 #[.int .i64 x, .int .i64 n] w (AmongEnds n w) := by
  obtain ⟨b0, b1⟩ := bounds_i64 hx
  go_enter Tryd.func11, Tryd.ntmps11
  go_wp2_with fail
  go_ret
  have hu : 0 ≤ IntKind.u64.wrap x := by rw [IntKind.wrap_u64]; omega
  have h1 := Int.tmod_nonneg n hu
  have h2 := Int.tmod_lt_of_pos (IntKind.u64.wrap x) (show 0 < n by omega)
  exact ⟨_, h1, h2, ret_int (IntWalk.wrap64_in _ ⟨by omega, by omega⟩), rfl⟩
end Go.Proofs.YtifjjcenmilohaaDoor
