/-
  NARROWER THAN 'FOR EVERY INPUT', by the rows' own cells (each row's printed sentence says how): BitsChange: laid · BitsMeets: laid · BitsPlays: laid · BitsNone: laid · GraphNew: laid · GraphUndoes: laid · GraphPlays: laid · GraphNone: laid · TopoLeast: laid · TopoIs: laid · TopoCounts: laid · TopoRound: laid · CloseThin: laid · CloseStays: laid · CloseOf: laid · RingLeast: laid · RingIs: laid · RingRound: laid.
  DERIVED. THE GIVEN ROWS OF THIS SEAT. 18 by the template 'for every input the law returns true; each argument reads behind the call as it read before'; 0 by the template 'total and deterministic' (their statements: YtafdijcolponjaaDoorTotals.lean).
  GIVEN WITH THE SEED: the statements are not yours to turn. If you find one false, say at which input.
  Laid BY PROGRAM, IN A SANDBOX (cutbox-rows.mjs): the forced cells as the released guide's own fill.sh prints them over the translation 304bef992d40b010… (all of the seat's roots in one cut). By AI agents, Wed Nov 11 2026. No macro, syntax, notation, axiom, sorry.
-/
import Derived.Test.YtafdijcolponjaaDoorChecked
import GoSem.Claim
import GoSem.ClaimJoined
import GoSem.ClaimMapViews
import Derived.JoinedTies
import Derived.KernelRfl
namespace Go.Proofs.YtafdijcolponjaaDoor
/- THE CELL 'sum', in the pinned program and in every row, IS THE sha256 OF THE DUMP (.gsa) THAT YtafdijcolponjaaDoorProg.lean LOADS. Nothing in Lean hashes anything: it is a label: what it is worth is what the hold of that sum in a sandbox is worth. -/
noncomputable def Tryd.pinned : Pinned := { name := "ytafdijcolponjaadoor", sum := "304bef992d40b010e0dd0fa0432e5922906a0776a12ed3dc6f0b5b842026f4be", checked := Tryd.checked }
namespace Rows
def none {H : Type} : Left H := { results := [], args := [] }

/- WHAT THE LISTED PACKAGE-LEVEL VARIABLES READ AS WHEN THE CALL BEGINS. Each datum BY PROGRAM (the guide's laid-datum.mjs) off the statement by which the dump's own 'gosem.cut.vars' lays the variable. In a bare row this is a premise. The card (YtafdijcolponjaaDoorCards.lean) ties it to the program's text. -/
def laid_math_bits_deBruijn64tab {H : Type} : DataW H := .agg [.lit (.int .u8 0), .lit (.int .u8 1), .lit (.int .u8 56), .lit (.int .u8 2), .lit (.int .u8 57), .lit (.int .u8 49), .lit (.int .u8 28), .lit (.int .u8 3), .lit (.int .u8 61), .lit (.int .u8 58), .lit (.int .u8 42), .lit (.int .u8 50), .lit (.int .u8 38), .lit (.int .u8 29), .lit (.int .u8 17), .lit (.int .u8 4), .lit (.int .u8 62), .lit (.int .u8 47), .lit (.int .u8 59), .lit (.int .u8 36), .lit (.int .u8 45), .lit (.int .u8 43), .lit (.int .u8 51), .lit (.int .u8 22), .lit (.int .u8 53), .lit (.int .u8 39), .lit (.int .u8 33), .lit (.int .u8 30), .lit (.int .u8 24), .lit (.int .u8 18), .lit (.int .u8 12), .lit (.int .u8 5), .lit (.int .u8 63), .lit (.int .u8 55), .lit (.int .u8 48), .lit (.int .u8 27), .lit (.int .u8 60), .lit (.int .u8 41), .lit (.int .u8 37), .lit (.int .u8 16), .lit (.int .u8 46), .lit (.int .u8 35), .lit (.int .u8 44), .lit (.int .u8 21), .lit (.int .u8 52), .lit (.int .u8 32), .lit (.int .u8 23), .lit (.int .u8 11), .lit (.int .u8 54), .lit (.int .u8 26), .lit (.int .u8 40), .lit (.int .u8 15), .lit (.int .u8 34), .lit (.int .u8 20), .lit (.int .u8 31), .lit (.int .u8 10), .lit (.int .u8 25), .lit (.int .u8 14), .lit (.int .u8 19), .lit (.int .u8 9), .lit (.int .u8 13), .lit (.int .u8 8), .lit (.int .u8 7), .lit (.int .u8 6)]

/-- 'deemsterlaw18.BitsChange': WHATEVER THE INPUT: true; the input reads as it did. -/
def bitsChangeSpec : ChangeSpec := { name := "bitsChange", fn := fun _ => fun
  | [d1, d2, d3] => { results := [.lit (.bool true)], args := [d1, d2, d3] }
  | _ => none }
def bitsChangeRow : OpenClaim := { program := "ytafdijcolponjaadoor", sum := "304bef992d40b010e0dd0fa0432e5922906a0776a12ed3dc6f0b5b842026f4be", func := "deemster/deemsterlaw18.BitsChange", spec := "bitsChange", named := ["math/bits.deBruijn64tab"], apart := false, laid := [("math/bits.deBruijn64tab", laid_math_bits_deBruijn64tab)] }
def BitsChangeSaid : Prop := bitsChangeRow.holds Tryd.pinned (OpenSpec.ofChange bitsChangeSpec)

/-- ITS FALSE NEIGHBOUR: 'it returns false'. Refute it at one input. -/
def bitsChangeWrong : ChangeSpec := { name := "bitsChange", fn := fun _ => fun
  | [d1, d2, d3] => { results := [.lit (.bool false)], args := [d1, d2, d3] }
  | _ => none }
def BitsChangeWrongFalsely : Prop := bitsChangeRow.holds Tryd.pinned (OpenSpec.ofChange bitsChangeWrong)

/-- 'deemsterlaw18.BitsMeets': WHATEVER THE INPUT: true; the input reads as it did. -/
def bitsMeetsSpec : ChangeSpec := { name := "bitsMeets", fn := fun _ => fun
  | [d1, d2] => { results := [.lit (.bool true)], args := [d1, d2] }
  | _ => none }
def bitsMeetsRow : OpenClaim := { program := "ytafdijcolponjaadoor", sum := "304bef992d40b010e0dd0fa0432e5922906a0776a12ed3dc6f0b5b842026f4be", func := "deemster/deemsterlaw18.BitsMeets", spec := "bitsMeets", named := ["math/bits.deBruijn64tab"], apart := false, laid := [("math/bits.deBruijn64tab", laid_math_bits_deBruijn64tab)] }
def BitsMeetsSaid : Prop := bitsMeetsRow.holds Tryd.pinned (OpenSpec.ofChange bitsMeetsSpec)

/-- ITS FALSE NEIGHBOUR: 'it returns false'. Refute it at one input. -/
def bitsMeetsWrong : ChangeSpec := { name := "bitsMeets", fn := fun _ => fun
  | [d1, d2] => { results := [.lit (.bool false)], args := [d1, d2] }
  | _ => none }
def BitsMeetsWrongFalsely : Prop := bitsMeetsRow.holds Tryd.pinned (OpenSpec.ofChange bitsMeetsWrong)

/-- 'deemsterlaw18.BitsPlays': WHATEVER THE INPUT: true; the input reads as it did. -/
def bitsPlaysSpec : ChangeSpec := { name := "bitsPlays", fn := fun _ => fun
  | [d1, d2] => { results := [.lit (.bool true)], args := [d1, d2] }
  | _ => none }
def bitsPlaysRow : OpenClaim := { program := "ytafdijcolponjaadoor", sum := "304bef992d40b010e0dd0fa0432e5922906a0776a12ed3dc6f0b5b842026f4be", func := "deemster/deemsterlaw18.BitsPlays", spec := "bitsPlays", named := ["math/bits.deBruijn64tab"], apart := false, laid := [("math/bits.deBruijn64tab", laid_math_bits_deBruijn64tab)] }
def BitsPlaysSaid : Prop := bitsPlaysRow.holds Tryd.pinned (OpenSpec.ofChange bitsPlaysSpec)

/-- ITS FALSE NEIGHBOUR: 'it returns false'. Refute it at one input. -/
def bitsPlaysWrong : ChangeSpec := { name := "bitsPlays", fn := fun _ => fun
  | [d1, d2] => { results := [.lit (.bool false)], args := [d1, d2] }
  | _ => none }
def BitsPlaysWrongFalsely : Prop := bitsPlaysRow.holds Tryd.pinned (OpenSpec.ofChange bitsPlaysWrong)

/-- 'deemsterlaw18.BitsNone': WHATEVER THE INPUT: true; the input reads as it did. -/
def bitsNoneSpec : ChangeSpec := { name := "bitsNone", fn := fun _ => fun
  | [d1, d2] => { results := [.lit (.bool true)], args := [d1, d2] }
  | _ => none }
def bitsNoneRow : OpenClaim := { program := "ytafdijcolponjaadoor", sum := "304bef992d40b010e0dd0fa0432e5922906a0776a12ed3dc6f0b5b842026f4be", func := "deemster/deemsterlaw18.BitsNone", spec := "bitsNone", named := ["math/bits.deBruijn64tab"], apart := false, laid := [("math/bits.deBruijn64tab", laid_math_bits_deBruijn64tab)] }
def BitsNoneSaid : Prop := bitsNoneRow.holds Tryd.pinned (OpenSpec.ofChange bitsNoneSpec)

/-- ITS FALSE NEIGHBOUR: 'it returns false'. Refute it at one input. -/
def bitsNoneWrong : ChangeSpec := { name := "bitsNone", fn := fun _ => fun
  | [d1, d2] => { results := [.lit (.bool false)], args := [d1, d2] }
  | _ => none }
def BitsNoneWrongFalsely : Prop := bitsNoneRow.holds Tryd.pinned (OpenSpec.ofChange bitsNoneWrong)

/-- 'deemsterlaw19.GraphNew': WHATEVER THE INPUT: true; the input reads as it did. -/
def graphNewSpec : ChangeSpec := { name := "graphNew", fn := fun _ => fun
  | [d] => { results := [.lit (.bool true)], args := [d] }
  | _ => none }
def graphNewRow : OpenClaim := { program := "ytafdijcolponjaadoor", sum := "304bef992d40b010e0dd0fa0432e5922906a0776a12ed3dc6f0b5b842026f4be", func := "deemster/deemsterlaw19.GraphNew", spec := "graphNew", named := ["math/bits.deBruijn64tab"], apart := false, laid := [("math/bits.deBruijn64tab", laid_math_bits_deBruijn64tab)] }
def GraphNewSaid : Prop := graphNewRow.holds Tryd.pinned (OpenSpec.ofChange graphNewSpec)

/-- ITS FALSE NEIGHBOUR: 'it returns false'. Refute it at one input. -/
def graphNewWrong : ChangeSpec := { name := "graphNew", fn := fun _ => fun
  | [d] => { results := [.lit (.bool false)], args := [d] }
  | _ => none }
def GraphNewWrongFalsely : Prop := graphNewRow.holds Tryd.pinned (OpenSpec.ofChange graphNewWrong)

/-- 'deemsterlaw19.GraphUndoes': WHATEVER THE INPUT: true; the input reads as it did. -/
def graphUndoesSpec : ChangeSpec := { name := "graphUndoes", fn := fun _ => fun
  | [d1, d2, d3] => { results := [.lit (.bool true)], args := [d1, d2, d3] }
  | _ => none }
def graphUndoesRow : OpenClaim := { program := "ytafdijcolponjaadoor", sum := "304bef992d40b010e0dd0fa0432e5922906a0776a12ed3dc6f0b5b842026f4be", func := "deemster/deemsterlaw19.GraphUndoes", spec := "graphUndoes", named := ["math/bits.deBruijn64tab"], apart := false, laid := [("math/bits.deBruijn64tab", laid_math_bits_deBruijn64tab)] }
def GraphUndoesSaid : Prop := graphUndoesRow.holds Tryd.pinned (OpenSpec.ofChange graphUndoesSpec)

/-- ITS FALSE NEIGHBOUR: 'it returns false'. Refute it at one input. -/
def graphUndoesWrong : ChangeSpec := { name := "graphUndoes", fn := fun _ => fun
  | [d1, d2, d3] => { results := [.lit (.bool false)], args := [d1, d2, d3] }
  | _ => none }
def GraphUndoesWrongFalsely : Prop := graphUndoesRow.holds Tryd.pinned (OpenSpec.ofChange graphUndoesWrong)

/-- 'deemsterlaw19.GraphPlays': WHATEVER THE INPUT: true; the input reads as it did. -/
def graphPlaysSpec : ChangeSpec := { name := "graphPlays", fn := fun _ => fun
  | [d1, d2, d3] => { results := [.lit (.bool true)], args := [d1, d2, d3] }
  | _ => none }
def graphPlaysRow : OpenClaim := { program := "ytafdijcolponjaadoor", sum := "304bef992d40b010e0dd0fa0432e5922906a0776a12ed3dc6f0b5b842026f4be", func := "deemster/deemsterlaw19.GraphPlays", spec := "graphPlays", named := ["math/bits.deBruijn64tab"], apart := false, laid := [("math/bits.deBruijn64tab", laid_math_bits_deBruijn64tab)] }
def GraphPlaysSaid : Prop := graphPlaysRow.holds Tryd.pinned (OpenSpec.ofChange graphPlaysSpec)

/-- ITS FALSE NEIGHBOUR: 'it returns false'. Refute it at one input. -/
def graphPlaysWrong : ChangeSpec := { name := "graphPlays", fn := fun _ => fun
  | [d1, d2, d3] => { results := [.lit (.bool false)], args := [d1, d2, d3] }
  | _ => none }
def GraphPlaysWrongFalsely : Prop := graphPlaysRow.holds Tryd.pinned (OpenSpec.ofChange graphPlaysWrong)

/-- 'deemsterlaw19.GraphNone': WHATEVER THE INPUT: true; the input reads as it did. -/
def graphNoneSpec : ChangeSpec := { name := "graphNone", fn := fun _ => fun
  | [d1, d2] => { results := [.lit (.bool true)], args := [d1, d2] }
  | _ => none }
def graphNoneRow : OpenClaim := { program := "ytafdijcolponjaadoor", sum := "304bef992d40b010e0dd0fa0432e5922906a0776a12ed3dc6f0b5b842026f4be", func := "deemster/deemsterlaw19.GraphNone", spec := "graphNone", named := ["math/bits.deBruijn64tab"], apart := false, laid := [("math/bits.deBruijn64tab", laid_math_bits_deBruijn64tab)] }
def GraphNoneSaid : Prop := graphNoneRow.holds Tryd.pinned (OpenSpec.ofChange graphNoneSpec)

/-- ITS FALSE NEIGHBOUR: 'it returns false'. Refute it at one input. -/
def graphNoneWrong : ChangeSpec := { name := "graphNone", fn := fun _ => fun
  | [d1, d2] => { results := [.lit (.bool false)], args := [d1, d2] }
  | _ => none }
def GraphNoneWrongFalsely : Prop := graphNoneRow.holds Tryd.pinned (OpenSpec.ofChange graphNoneWrong)

/-- 'deemsterlaw22.TopoLeast': WHATEVER THE INPUT: true; the input reads as it did. -/
def topoLeastSpec : ChangeSpec := { name := "topoLeast", fn := fun _ => fun
  | [d1, d2] => { results := [.lit (.bool true)], args := [d1, d2] }
  | _ => none }
def topoLeastRow : OpenClaim := { program := "ytafdijcolponjaadoor", sum := "304bef992d40b010e0dd0fa0432e5922906a0776a12ed3dc6f0b5b842026f4be", func := "deemster/deemsterlaw22.TopoLeast", spec := "topoLeast", unfollowed := true, recurses := true, named := ["math/bits.deBruijn64tab"], apart := false, laid := [("math/bits.deBruijn64tab", laid_math_bits_deBruijn64tab)] }
def TopoLeastSaid : Prop := topoLeastRow.holds Tryd.pinned (OpenSpec.ofChange topoLeastSpec)

/-- ITS FALSE NEIGHBOUR: 'it returns false'. Refute it at one input. -/
def topoLeastWrong : ChangeSpec := { name := "topoLeast", fn := fun _ => fun
  | [d1, d2] => { results := [.lit (.bool false)], args := [d1, d2] }
  | _ => none }
def TopoLeastWrongFalsely : Prop := topoLeastRow.holds Tryd.pinned (OpenSpec.ofChange topoLeastWrong)

/-- 'deemsterlaw22.TopoIs': WHATEVER THE INPUT: true; the input reads as it did. -/
def topoIsSpec : ChangeSpec := { name := "topoIs", fn := fun _ => fun
  | [d1, d2] => { results := [.lit (.bool true)], args := [d1, d2] }
  | _ => none }
def topoIsRow : OpenClaim := { program := "ytafdijcolponjaadoor", sum := "304bef992d40b010e0dd0fa0432e5922906a0776a12ed3dc6f0b5b842026f4be", func := "deemster/deemsterlaw22.TopoIs", spec := "topoIs", unfollowed := true, recurses := true, named := ["math/bits.deBruijn64tab"], apart := false, laid := [("math/bits.deBruijn64tab", laid_math_bits_deBruijn64tab)] }
def TopoIsSaid : Prop := topoIsRow.holds Tryd.pinned (OpenSpec.ofChange topoIsSpec)

/-- ITS FALSE NEIGHBOUR: 'it returns false'. Refute it at one input. -/
def topoIsWrong : ChangeSpec := { name := "topoIs", fn := fun _ => fun
  | [d1, d2] => { results := [.lit (.bool false)], args := [d1, d2] }
  | _ => none }
def TopoIsWrongFalsely : Prop := topoIsRow.holds Tryd.pinned (OpenSpec.ofChange topoIsWrong)

/-- 'deemsterlaw22.TopoCounts': WHATEVER THE INPUT: true; the input reads as it did. -/
def topoCountsSpec : ChangeSpec := { name := "topoCounts", fn := fun _ => fun
  | [d1, d2] => { results := [.lit (.bool true)], args := [d1, d2] }
  | _ => none }
def topoCountsRow : OpenClaim := { program := "ytafdijcolponjaadoor", sum := "304bef992d40b010e0dd0fa0432e5922906a0776a12ed3dc6f0b5b842026f4be", func := "deemster/deemsterlaw22.TopoCounts", spec := "topoCounts", unfollowed := true, recurses := true, named := ["math/bits.deBruijn64tab"], apart := false, laid := [("math/bits.deBruijn64tab", laid_math_bits_deBruijn64tab)] }
def TopoCountsSaid : Prop := topoCountsRow.holds Tryd.pinned (OpenSpec.ofChange topoCountsSpec)

/-- ITS FALSE NEIGHBOUR: 'it returns false'. Refute it at one input. -/
def topoCountsWrong : ChangeSpec := { name := "topoCounts", fn := fun _ => fun
  | [d1, d2] => { results := [.lit (.bool false)], args := [d1, d2] }
  | _ => none }
def TopoCountsWrongFalsely : Prop := topoCountsRow.holds Tryd.pinned (OpenSpec.ofChange topoCountsWrong)

/-- 'deemsterlaw22.TopoRound': WHATEVER THE INPUT: true; the input reads as it did. -/
def topoRoundSpec : ChangeSpec := { name := "topoRound", fn := fun _ => fun
  | [d1, d2] => { results := [.lit (.bool true)], args := [d1, d2] }
  | _ => none }
def topoRoundRow : OpenClaim := { program := "ytafdijcolponjaadoor", sum := "304bef992d40b010e0dd0fa0432e5922906a0776a12ed3dc6f0b5b842026f4be", func := "deemster/deemsterlaw22.TopoRound", spec := "topoRound", unfollowed := true, recurses := true, named := ["math/bits.deBruijn64tab"], apart := false, laid := [("math/bits.deBruijn64tab", laid_math_bits_deBruijn64tab)] }
def TopoRoundSaid : Prop := topoRoundRow.holds Tryd.pinned (OpenSpec.ofChange topoRoundSpec)

/-- ITS FALSE NEIGHBOUR: 'it returns false'. Refute it at one input. -/
def topoRoundWrong : ChangeSpec := { name := "topoRound", fn := fun _ => fun
  | [d1, d2] => { results := [.lit (.bool false)], args := [d1, d2] }
  | _ => none }
def TopoRoundWrongFalsely : Prop := topoRoundRow.holds Tryd.pinned (OpenSpec.ofChange topoRoundWrong)

/-- 'deemsterlaw21.CloseThin': WHATEVER THE INPUT: true; the input reads as it did. -/
def closeThinSpec : ChangeSpec := { name := "closeThin", fn := fun _ => fun
  | [d1, d2] => { results := [.lit (.bool true)], args := [d1, d2] }
  | _ => none }
def closeThinRow : OpenClaim := { program := "ytafdijcolponjaadoor", sum := "304bef992d40b010e0dd0fa0432e5922906a0776a12ed3dc6f0b5b842026f4be", func := "deemster/deemsterlaw21.CloseThin", spec := "closeThin", unfollowed := true, recurses := true, named := ["math/bits.deBruijn64tab"], apart := false, laid := [("math/bits.deBruijn64tab", laid_math_bits_deBruijn64tab)] }
def CloseThinSaid : Prop := closeThinRow.holds Tryd.pinned (OpenSpec.ofChange closeThinSpec)

/-- ITS FALSE NEIGHBOUR: 'it returns false'. Refute it at one input. -/
def closeThinWrong : ChangeSpec := { name := "closeThin", fn := fun _ => fun
  | [d1, d2] => { results := [.lit (.bool false)], args := [d1, d2] }
  | _ => none }
def CloseThinWrongFalsely : Prop := closeThinRow.holds Tryd.pinned (OpenSpec.ofChange closeThinWrong)

/-- 'deemsterlaw21.CloseStays': WHATEVER THE INPUT: true; the input reads as it did. -/
def closeStaysSpec : ChangeSpec := { name := "closeStays", fn := fun _ => fun
  | [d1, d2] => { results := [.lit (.bool true)], args := [d1, d2] }
  | _ => none }
def closeStaysRow : OpenClaim := { program := "ytafdijcolponjaadoor", sum := "304bef992d40b010e0dd0fa0432e5922906a0776a12ed3dc6f0b5b842026f4be", func := "deemster/deemsterlaw21.CloseStays", spec := "closeStays", unfollowed := true, recurses := true, named := ["math/bits.deBruijn64tab"], apart := false, laid := [("math/bits.deBruijn64tab", laid_math_bits_deBruijn64tab)] }
def CloseStaysSaid : Prop := closeStaysRow.holds Tryd.pinned (OpenSpec.ofChange closeStaysSpec)

/-- ITS FALSE NEIGHBOUR: 'it returns false'. Refute it at one input. -/
def closeStaysWrong : ChangeSpec := { name := "closeStays", fn := fun _ => fun
  | [d1, d2] => { results := [.lit (.bool false)], args := [d1, d2] }
  | _ => none }
def CloseStaysWrongFalsely : Prop := closeStaysRow.holds Tryd.pinned (OpenSpec.ofChange closeStaysWrong)

/-- 'deemsterlaw21.CloseOf': WHATEVER THE INPUT: true; the input reads as it did. -/
def closeOfSpec : ChangeSpec := { name := "closeOf", fn := fun _ => fun
  | [d1, d2, d3] => { results := [.lit (.bool true)], args := [d1, d2, d3] }
  | _ => none }
def closeOfRow : OpenClaim := { program := "ytafdijcolponjaadoor", sum := "304bef992d40b010e0dd0fa0432e5922906a0776a12ed3dc6f0b5b842026f4be", func := "deemster/deemsterlaw21.CloseOf", spec := "closeOf", unfollowed := true, recurses := true, named := ["math/bits.deBruijn64tab"], apart := false, laid := [("math/bits.deBruijn64tab", laid_math_bits_deBruijn64tab)] }
def CloseOfSaid : Prop := closeOfRow.holds Tryd.pinned (OpenSpec.ofChange closeOfSpec)

/-- ITS FALSE NEIGHBOUR: 'it returns false'. Refute it at one input. -/
def closeOfWrong : ChangeSpec := { name := "closeOf", fn := fun _ => fun
  | [d1, d2, d3] => { results := [.lit (.bool false)], args := [d1, d2, d3] }
  | _ => none }
def CloseOfWrongFalsely : Prop := closeOfRow.holds Tryd.pinned (OpenSpec.ofChange closeOfWrong)

/-- 'deemsterlaw23.RingLeast': WHATEVER THE INPUT: true; the input reads as it did. -/
def ringLeastSpec : ChangeSpec := { name := "ringLeast", fn := fun _ => fun
  | [d1, d2] => { results := [.lit (.bool true)], args := [d1, d2] }
  | _ => none }
def ringLeastRow : OpenClaim := { program := "ytafdijcolponjaadoor", sum := "304bef992d40b010e0dd0fa0432e5922906a0776a12ed3dc6f0b5b842026f4be", func := "deemster/deemsterlaw23.RingLeast", spec := "ringLeast", unfollowed := true, recurses := true, named := ["math/bits.deBruijn64tab"], apart := false, laid := [("math/bits.deBruijn64tab", laid_math_bits_deBruijn64tab)] }
def RingLeastSaid : Prop := ringLeastRow.holds Tryd.pinned (OpenSpec.ofChange ringLeastSpec)

/-- ITS FALSE NEIGHBOUR: 'it returns false'. Refute it at one input. -/
def ringLeastWrong : ChangeSpec := { name := "ringLeast", fn := fun _ => fun
  | [d1, d2] => { results := [.lit (.bool false)], args := [d1, d2] }
  | _ => none }
def RingLeastWrongFalsely : Prop := ringLeastRow.holds Tryd.pinned (OpenSpec.ofChange ringLeastWrong)

/-- 'deemsterlaw23.RingIs': WHATEVER THE INPUT: true; the input reads as it did. -/
def ringIsSpec : ChangeSpec := { name := "ringIs", fn := fun _ => fun
  | [d1, d2, d3] => { results := [.lit (.bool true)], args := [d1, d2, d3] }
  | _ => none }
def ringIsRow : OpenClaim := { program := "ytafdijcolponjaadoor", sum := "304bef992d40b010e0dd0fa0432e5922906a0776a12ed3dc6f0b5b842026f4be", func := "deemster/deemsterlaw23.RingIs", spec := "ringIs", unfollowed := true, recurses := true, named := ["math/bits.deBruijn64tab"], apart := false, laid := [("math/bits.deBruijn64tab", laid_math_bits_deBruijn64tab)] }
def RingIsSaid : Prop := ringIsRow.holds Tryd.pinned (OpenSpec.ofChange ringIsSpec)

/-- ITS FALSE NEIGHBOUR: 'it returns false'. Refute it at one input. -/
def ringIsWrong : ChangeSpec := { name := "ringIs", fn := fun _ => fun
  | [d1, d2, d3] => { results := [.lit (.bool false)], args := [d1, d2, d3] }
  | _ => none }
def RingIsWrongFalsely : Prop := ringIsRow.holds Tryd.pinned (OpenSpec.ofChange ringIsWrong)

/-- 'deemsterlaw23.RingRound': WHATEVER THE INPUT: true; the input reads as it did. -/
def ringRoundSpec : ChangeSpec := { name := "ringRound", fn := fun _ => fun
  | [d1, d2] => { results := [.lit (.bool true)], args := [d1, d2] }
  | _ => none }
def ringRoundRow : OpenClaim := { program := "ytafdijcolponjaadoor", sum := "304bef992d40b010e0dd0fa0432e5922906a0776a12ed3dc6f0b5b842026f4be", func := "deemster/deemsterlaw23.RingRound", spec := "ringRound", unfollowed := true, recurses := true, named := ["math/bits.deBruijn64tab"], apart := false, laid := [("math/bits.deBruijn64tab", laid_math_bits_deBruijn64tab)] }
def RingRoundSaid : Prop := ringRoundRow.holds Tryd.pinned (OpenSpec.ofChange ringRoundSpec)

/-- ITS FALSE NEIGHBOUR: 'it returns false'. Refute it at one input. -/
def ringRoundWrong : ChangeSpec := { name := "ringRound", fn := fun _ => fun
  | [d1, d2] => { results := [.lit (.bool false)], args := [d1, d2] }
  | _ => none }
def RingRoundWrongFalsely : Prop := ringRoundRow.holds Tryd.pinned (OpenSpec.ofChange ringRoundWrong)

/- THE SECOND FORM. 'bulk': how many values and letters a reading holds, each counted each time it is reached (what is shared counts as often as it is met; a slice's spare places count too). A statement '..UptoSaid' is the law's where the arguments, and the package variables that the reading takes, are together of bulk at most 1048576: NARROWER than '..Said'. Prove '..Said' where nothing that the law and all that it calls make is longer than what came in: it says more and counts as full. Else prove '..UptoSaid'. A law counts once. -/
mutual
def uptoBulk {H : Type} : DataW H → Nat
  | .lit (.string bytes) => bytes.length + 1
  | .lit _ => 1
  | .nil => 1
  | .ptr d => uptoBulk d + 1
  | .slice elems spare => uptoBulkAll elems + uptoBulkAll spare + 1
  | .agg parts => uptoBulkAll parts + 1
  | .iface _ d => uptoBulk d + 1
  | .map entries => uptoBulkEntries entries + 1
  | .held _ => 1
def uptoBulkAll {H : Type} : List (DataW H) → Nat
  | [] => 0
  | d :: r => uptoBulk d + uptoBulkAll r
def uptoBulkEntries {H : Type} : List (Lit × DataW H) → Nat
  | [] => 0
  | x :: r => uptoBulkEntry x + uptoBulkEntries r
def uptoBulkEntry {H : Type} : Lit × DataW H → Nat
  | (.string bytes, d) => bytes.length + uptoBulk d + 1
  | (_, d) => uptoBulk d + 1
 end
def uptoSmall : (H : Type) → List (DataW H) → Bool := fun _ ds => decide (uptoBulkAll ds ≤ 1048576)
def OpenSpec.upto (s : _root_.Go.ChangeSpec) : _root_.Go.OpenSpec := { _root_.Go.OpenSpec.ofChange s with cond := some uptoSmall }

/-- 'deemsterlaw18.BitsChange', WHERE WHAT IT READS IS OF BULK AT MOST 1048576: true; the input reads as it did. -/
def bitsChangeUptoRow : OpenClaim := { program := "ytafdijcolponjaadoor", sum := "304bef992d40b010e0dd0fa0432e5922906a0776a12ed3dc6f0b5b842026f4be", func := "deemster/deemsterlaw18.BitsChange", spec := "bitsChange", named := ["math/bits.deBruijn64tab"], apart := false, laid := [("math/bits.deBruijn64tab", laid_math_bits_deBruijn64tab)], narrowed := true }
def BitsChangeUptoSaid : Prop := bitsChangeUptoRow.holds Tryd.pinned (OpenSpec.upto bitsChangeSpec)

/-- 'deemsterlaw18.BitsMeets', WHERE WHAT IT READS IS OF BULK AT MOST 1048576: true; the input reads as it did. -/
def bitsMeetsUptoRow : OpenClaim := { program := "ytafdijcolponjaadoor", sum := "304bef992d40b010e0dd0fa0432e5922906a0776a12ed3dc6f0b5b842026f4be", func := "deemster/deemsterlaw18.BitsMeets", spec := "bitsMeets", named := ["math/bits.deBruijn64tab"], apart := false, laid := [("math/bits.deBruijn64tab", laid_math_bits_deBruijn64tab)], narrowed := true }
def BitsMeetsUptoSaid : Prop := bitsMeetsUptoRow.holds Tryd.pinned (OpenSpec.upto bitsMeetsSpec)

/-- 'deemsterlaw18.BitsPlays', WHERE WHAT IT READS IS OF BULK AT MOST 1048576: true; the input reads as it did. -/
def bitsPlaysUptoRow : OpenClaim := { program := "ytafdijcolponjaadoor", sum := "304bef992d40b010e0dd0fa0432e5922906a0776a12ed3dc6f0b5b842026f4be", func := "deemster/deemsterlaw18.BitsPlays", spec := "bitsPlays", named := ["math/bits.deBruijn64tab"], apart := false, laid := [("math/bits.deBruijn64tab", laid_math_bits_deBruijn64tab)], narrowed := true }
def BitsPlaysUptoSaid : Prop := bitsPlaysUptoRow.holds Tryd.pinned (OpenSpec.upto bitsPlaysSpec)

/-- 'deemsterlaw18.BitsNone', WHERE WHAT IT READS IS OF BULK AT MOST 1048576: true; the input reads as it did. -/
def bitsNoneUptoRow : OpenClaim := { program := "ytafdijcolponjaadoor", sum := "304bef992d40b010e0dd0fa0432e5922906a0776a12ed3dc6f0b5b842026f4be", func := "deemster/deemsterlaw18.BitsNone", spec := "bitsNone", named := ["math/bits.deBruijn64tab"], apart := false, laid := [("math/bits.deBruijn64tab", laid_math_bits_deBruijn64tab)], narrowed := true }
def BitsNoneUptoSaid : Prop := bitsNoneUptoRow.holds Tryd.pinned (OpenSpec.upto bitsNoneSpec)

/-- 'deemsterlaw19.GraphNew', WHERE WHAT IT READS IS OF BULK AT MOST 1048576: true; the input reads as it did. -/
def graphNewUptoRow : OpenClaim := { program := "ytafdijcolponjaadoor", sum := "304bef992d40b010e0dd0fa0432e5922906a0776a12ed3dc6f0b5b842026f4be", func := "deemster/deemsterlaw19.GraphNew", spec := "graphNew", named := ["math/bits.deBruijn64tab"], apart := false, laid := [("math/bits.deBruijn64tab", laid_math_bits_deBruijn64tab)], narrowed := true }
def GraphNewUptoSaid : Prop := graphNewUptoRow.holds Tryd.pinned (OpenSpec.upto graphNewSpec)

/-- 'deemsterlaw19.GraphUndoes', WHERE WHAT IT READS IS OF BULK AT MOST 1048576: true; the input reads as it did. -/
def graphUndoesUptoRow : OpenClaim := { program := "ytafdijcolponjaadoor", sum := "304bef992d40b010e0dd0fa0432e5922906a0776a12ed3dc6f0b5b842026f4be", func := "deemster/deemsterlaw19.GraphUndoes", spec := "graphUndoes", named := ["math/bits.deBruijn64tab"], apart := false, laid := [("math/bits.deBruijn64tab", laid_math_bits_deBruijn64tab)], narrowed := true }
def GraphUndoesUptoSaid : Prop := graphUndoesUptoRow.holds Tryd.pinned (OpenSpec.upto graphUndoesSpec)

/-- 'deemsterlaw19.GraphPlays', WHERE WHAT IT READS IS OF BULK AT MOST 1048576: true; the input reads as it did. -/
def graphPlaysUptoRow : OpenClaim := { program := "ytafdijcolponjaadoor", sum := "304bef992d40b010e0dd0fa0432e5922906a0776a12ed3dc6f0b5b842026f4be", func := "deemster/deemsterlaw19.GraphPlays", spec := "graphPlays", named := ["math/bits.deBruijn64tab"], apart := false, laid := [("math/bits.deBruijn64tab", laid_math_bits_deBruijn64tab)], narrowed := true }
def GraphPlaysUptoSaid : Prop := graphPlaysUptoRow.holds Tryd.pinned (OpenSpec.upto graphPlaysSpec)

/-- 'deemsterlaw19.GraphNone', WHERE WHAT IT READS IS OF BULK AT MOST 1048576: true; the input reads as it did. -/
def graphNoneUptoRow : OpenClaim := { program := "ytafdijcolponjaadoor", sum := "304bef992d40b010e0dd0fa0432e5922906a0776a12ed3dc6f0b5b842026f4be", func := "deemster/deemsterlaw19.GraphNone", spec := "graphNone", named := ["math/bits.deBruijn64tab"], apart := false, laid := [("math/bits.deBruijn64tab", laid_math_bits_deBruijn64tab)], narrowed := true }
def GraphNoneUptoSaid : Prop := graphNoneUptoRow.holds Tryd.pinned (OpenSpec.upto graphNoneSpec)

/-- 'deemsterlaw22.TopoLeast', WHERE WHAT IT READS IS OF BULK AT MOST 1048576: true; the input reads as it did. -/
def topoLeastUptoRow : OpenClaim := { program := "ytafdijcolponjaadoor", sum := "304bef992d40b010e0dd0fa0432e5922906a0776a12ed3dc6f0b5b842026f4be", func := "deemster/deemsterlaw22.TopoLeast", spec := "topoLeast", unfollowed := true, recurses := true, named := ["math/bits.deBruijn64tab"], apart := false, laid := [("math/bits.deBruijn64tab", laid_math_bits_deBruijn64tab)], narrowed := true }
def TopoLeastUptoSaid : Prop := topoLeastUptoRow.holds Tryd.pinned (OpenSpec.upto topoLeastSpec)

/-- 'deemsterlaw22.TopoIs', WHERE WHAT IT READS IS OF BULK AT MOST 1048576: true; the input reads as it did. -/
def topoIsUptoRow : OpenClaim := { program := "ytafdijcolponjaadoor", sum := "304bef992d40b010e0dd0fa0432e5922906a0776a12ed3dc6f0b5b842026f4be", func := "deemster/deemsterlaw22.TopoIs", spec := "topoIs", unfollowed := true, recurses := true, named := ["math/bits.deBruijn64tab"], apart := false, laid := [("math/bits.deBruijn64tab", laid_math_bits_deBruijn64tab)], narrowed := true }
def TopoIsUptoSaid : Prop := topoIsUptoRow.holds Tryd.pinned (OpenSpec.upto topoIsSpec)

/-- 'deemsterlaw22.TopoCounts', WHERE WHAT IT READS IS OF BULK AT MOST 1048576: true; the input reads as it did. -/
def topoCountsUptoRow : OpenClaim := { program := "ytafdijcolponjaadoor", sum := "304bef992d40b010e0dd0fa0432e5922906a0776a12ed3dc6f0b5b842026f4be", func := "deemster/deemsterlaw22.TopoCounts", spec := "topoCounts", unfollowed := true, recurses := true, named := ["math/bits.deBruijn64tab"], apart := false, laid := [("math/bits.deBruijn64tab", laid_math_bits_deBruijn64tab)], narrowed := true }
def TopoCountsUptoSaid : Prop := topoCountsUptoRow.holds Tryd.pinned (OpenSpec.upto topoCountsSpec)

/-- 'deemsterlaw22.TopoRound', WHERE WHAT IT READS IS OF BULK AT MOST 1048576: true; the input reads as it did. -/
def topoRoundUptoRow : OpenClaim := { program := "ytafdijcolponjaadoor", sum := "304bef992d40b010e0dd0fa0432e5922906a0776a12ed3dc6f0b5b842026f4be", func := "deemster/deemsterlaw22.TopoRound", spec := "topoRound", unfollowed := true, recurses := true, named := ["math/bits.deBruijn64tab"], apart := false, laid := [("math/bits.deBruijn64tab", laid_math_bits_deBruijn64tab)], narrowed := true }
def TopoRoundUptoSaid : Prop := topoRoundUptoRow.holds Tryd.pinned (OpenSpec.upto topoRoundSpec)

/-- 'deemsterlaw21.CloseThin', WHERE WHAT IT READS IS OF BULK AT MOST 1048576: true; the input reads as it did. -/
def closeThinUptoRow : OpenClaim := { program := "ytafdijcolponjaadoor", sum := "304bef992d40b010e0dd0fa0432e5922906a0776a12ed3dc6f0b5b842026f4be", func := "deemster/deemsterlaw21.CloseThin", spec := "closeThin", unfollowed := true, recurses := true, named := ["math/bits.deBruijn64tab"], apart := false, laid := [("math/bits.deBruijn64tab", laid_math_bits_deBruijn64tab)], narrowed := true }
def CloseThinUptoSaid : Prop := closeThinUptoRow.holds Tryd.pinned (OpenSpec.upto closeThinSpec)

/-- 'deemsterlaw21.CloseStays', WHERE WHAT IT READS IS OF BULK AT MOST 1048576: true; the input reads as it did. -/
def closeStaysUptoRow : OpenClaim := { program := "ytafdijcolponjaadoor", sum := "304bef992d40b010e0dd0fa0432e5922906a0776a12ed3dc6f0b5b842026f4be", func := "deemster/deemsterlaw21.CloseStays", spec := "closeStays", unfollowed := true, recurses := true, named := ["math/bits.deBruijn64tab"], apart := false, laid := [("math/bits.deBruijn64tab", laid_math_bits_deBruijn64tab)], narrowed := true }
def CloseStaysUptoSaid : Prop := closeStaysUptoRow.holds Tryd.pinned (OpenSpec.upto closeStaysSpec)

/-- 'deemsterlaw21.CloseOf', WHERE WHAT IT READS IS OF BULK AT MOST 1048576: true; the input reads as it did. -/
def closeOfUptoRow : OpenClaim := { program := "ytafdijcolponjaadoor", sum := "304bef992d40b010e0dd0fa0432e5922906a0776a12ed3dc6f0b5b842026f4be", func := "deemster/deemsterlaw21.CloseOf", spec := "closeOf", unfollowed := true, recurses := true, named := ["math/bits.deBruijn64tab"], apart := false, laid := [("math/bits.deBruijn64tab", laid_math_bits_deBruijn64tab)], narrowed := true }
def CloseOfUptoSaid : Prop := closeOfUptoRow.holds Tryd.pinned (OpenSpec.upto closeOfSpec)

/-- 'deemsterlaw23.RingLeast', WHERE WHAT IT READS IS OF BULK AT MOST 1048576: true; the input reads as it did. -/
def ringLeastUptoRow : OpenClaim := { program := "ytafdijcolponjaadoor", sum := "304bef992d40b010e0dd0fa0432e5922906a0776a12ed3dc6f0b5b842026f4be", func := "deemster/deemsterlaw23.RingLeast", spec := "ringLeast", unfollowed := true, recurses := true, named := ["math/bits.deBruijn64tab"], apart := false, laid := [("math/bits.deBruijn64tab", laid_math_bits_deBruijn64tab)], narrowed := true }
def RingLeastUptoSaid : Prop := ringLeastUptoRow.holds Tryd.pinned (OpenSpec.upto ringLeastSpec)

/-- 'deemsterlaw23.RingIs', WHERE WHAT IT READS IS OF BULK AT MOST 1048576: true; the input reads as it did. -/
def ringIsUptoRow : OpenClaim := { program := "ytafdijcolponjaadoor", sum := "304bef992d40b010e0dd0fa0432e5922906a0776a12ed3dc6f0b5b842026f4be", func := "deemster/deemsterlaw23.RingIs", spec := "ringIs", unfollowed := true, recurses := true, named := ["math/bits.deBruijn64tab"], apart := false, laid := [("math/bits.deBruijn64tab", laid_math_bits_deBruijn64tab)], narrowed := true }
def RingIsUptoSaid : Prop := ringIsUptoRow.holds Tryd.pinned (OpenSpec.upto ringIsSpec)

/-- 'deemsterlaw23.RingRound', WHERE WHAT IT READS IS OF BULK AT MOST 1048576: true; the input reads as it did. -/
def ringRoundUptoRow : OpenClaim := { program := "ytafdijcolponjaadoor", sum := "304bef992d40b010e0dd0fa0432e5922906a0776a12ed3dc6f0b5b842026f4be", func := "deemster/deemsterlaw23.RingRound", spec := "ringRound", unfollowed := true, recurses := true, named := ["math/bits.deBruijn64tab"], apart := false, laid := [("math/bits.deBruijn64tab", laid_math_bits_deBruijn64tab)], narrowed := true }
def RingRoundUptoSaid : Prop := ringRoundUptoRow.holds Tryd.pinned (OpenSpec.upto ringRoundSpec)

end Rows
end Go.Proofs.YtafdijcolponjaaDoor
