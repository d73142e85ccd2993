/- The listed table of math/bits, from the rows' condition to the walks' fact; a world that meets the condition. No condition but those in each statement. -/
import Derived.Test.YtafdijcolponjaaDoorBitsC
import Derived.Test.YtafdijcolponjaaDoorTie
import Derived.Lib.LaidTab
import Derived.LaidHandle
import Derived.ChangeSame
import Derived.ChangeVars
import Derived.JoinedOf
import Derived.RowKitTokens
import Derived.LaidLaws
import Derived.Stop.Joined
namespace Go.Proofs.YtafdijcolponjaaDoor
open Go.ChangeShapes Go.WideShapes Go.RowKit

theorem gTab : Tryd.prog.globalNamed "math/bits.deBruijn64tab" = some 0 := by kernel_rfl
theorem gTabType : (Tryd.prog.globals[0]?).map (·.type) = some 126 := by kernel_rfl
theorem cells64 : Tryd.prog.cellsOf 126 = 64 := by kernel_rfl
theorem cellsU8 : Tryd.prog.cellsOf 5 = 1 := by kernel_rfl
def tabZ : List Int := Lib.deBruijn64tab.map Int.ofNat
theorem tabDatum : (Rows.laid_math_bits_deBruijn64tab : DataW Unit) = Lib.tabData .u8 tabZ := by rfl

/-- What the condition gives a walk. -/
theorem tab_of_laid {W : World} (h : laidMetH Tryd.prog [("math/bits.deBruijn64tab", Rows.laid_math_bits_deBruijn64tab)] W) : TabIs W := by
  have h' : laidMet Tryd.prog [("math/bits.deBruijn64tab", Rows.laid_math_bits_deBruijn64tab)] W := h
  rw [tabDatum] at h'
  have ht := Lib.tabIs_of_head gTab gTabType Tryd.underlying126 Tryd.underlying5 cellsU8 cells64 h'
  intro j hj
  rw [ht.cell gTab j (by simpa [tabZ] using hj)]
  simp [tabZ, List.getD, hj]

/-- A world that meets the condition. -/
noncomputable def laidWorld (os : Os) : World :=
  let w0 := World.holding Tryd.prog os ⟨#[], #[], []⟩
  { w0 with heap := w0.heap.modify 0 fun
      | .cells _ t frozen => .cells (tabZ.map fun z => Value.int .u8 z).toArray t frozen
      | o => o }
theorem laid_met (os : Os) (args : Array Value) : laidMetH Tryd.prog [("math/bits.deBruijn64tab", Rows.laid_math_bits_deBruijn64tab)] ((laidWorld os).forCall (fun _ _ => 0) ⟨#[], args, []⟩).memory :=
  laidMetH_of_parts (laidMet_of_run' 8 (by kernel_rfl) (by kernel_rfl)) (by kernel_rfl)
end Go.Proofs.YtafdijcolponjaaDoor
