/- The listed table of math/bits, from the rows' condition to the walks' fact; a world that meets the condition. No condition but those in each statement. -/
import Derived.Test.YtifjjcenmilohaaDoorTz
import Derived.Test.YtifjjcenmilohaaDoorTie
import Derived.Lib.LaidTab
import Derived.LaidHandle
import Derived.ChangeSame
import Derived.ChangeVars
import Derived.JoinedOf
import Derived.RowKitTokens
import Derived.LaidLaws
import Derived.Stop.Joined
namespace Go.Proofs.YtifjjcenmilohaaDoor
open Go.ChangeShapes Go.WideShapes Go.RowKit

theorem gTab32 : Tryd.prog.globalNamed "math/bits.deBruijn32tab" = some 0 := by kernel_rfl
theorem gTab : Tryd.prog.globalNamed "math/bits.deBruijn64tab" = some 1 := by kernel_rfl
theorem gTabType : (Tryd.prog.globals[1]?).map (·.type) = some 73 := by kernel_rfl
theorem cells64 : Tryd.prog.cellsOf 73 = 64 := by kernel_rfl
theorem cellsU8 : Tryd.prog.cellsOf 5 = 1 := by kernel_rfl
def tabZ : List Int := Lib.deBruijn64tab.map Int.ofNat
theorem tabDatum : (Rows.laid_math_bits_deBruijn64tab : DataW Unit) = Lib.tabData .u8 tabZ := by rfl
def lds : List (String × DataW Unit) := [("math/bits.deBruijn32tab", Rows.laid_math_bits_deBruijn32tab), ("math/bits.deBruijn64tab", Rows.laid_math_bits_deBruijn64tab)]

theorem laidMet_tail {P : Program} {W : World} {x : String × DataW Unit} {rest : List (String × DataW Unit)} (h : laidMet P (x :: rest) W) : laidMet P rest W := by
  obtain ⟨ps, ⟨g, t, cs, fuel, p, q, -, -, -, -, hv, rfl⟩, hn, hc⟩ := h
  exact ⟨q, hv, (List.nodup_append.1 hn).2.1, fun b off hm => hc b off (List.mem_append_right _ hm)⟩

/-- What the condition gives a walk. -/
theorem tab_of_laid {W : World} (h : laidMetH Tryd.prog lds W) : TabIs W := by
  have h' : laidMet Tryd.prog lds W := h
  have h2 := laidMet_tail h'
  rw [tabDatum] at h2
  have ht := Lib.tabIs_of_head gTab gTabType Tryd.underlying73 Tryd.underlying5 cellsU8 cells64 h2
  intro j hj
  rw [ht.cell gTab j (by simpa [tabZ] using hj)]
  simp [tabZ, List.getD, hj]

/-- The table, by what it is for: the place of the only bit, from the product's highest five bits. -/
def tab32 : List Int := (List.range 32).map fun i => (((List.range 32).find? fun k => 125613361 * 2 ^ k % 4294967296 / 134217728 == i).getD 0 : Nat)
/-- A world that meets the condition. -/
noncomputable def laidWorld (os : Os) : World :=
  let w0 := World.holding Tryd.prog os ⟨#[], #[], []⟩
  let w1 := { w0 with heap := w0.heap.modify 0 fun
      | .cells _ t frozen => .cells (tab32.map fun z => Value.int .u8 z).toArray t frozen
      | o => o }
  { w1 with heap := w1.heap.modify 1 fun
      | .cells _ t frozen => .cells (tabZ.map fun z => Value.int .u8 z).toArray t frozen
      | o => o }
theorem laid_met (os : Os) (args : Array Value) : laidMetH Tryd.prog lds ((laidWorld os).forCall (fun _ _ => 0) ⟨#[], args, []⟩).memory :=
  laidMetH_of_parts (laidMet_of_run' 8 (by kernel_rfl) (by kernel_rfl)) (by kernel_rfl)
end Go.Proofs.YtifjjcenmilohaaDoor
