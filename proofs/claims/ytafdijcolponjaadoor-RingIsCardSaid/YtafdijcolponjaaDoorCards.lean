/-
  DERIVED. GIVEN WITH THE SEED: THE CARDS: each row of YtafdijcolponjaaDoorRows.lean that lists a variable, with what it lists TIED to the program's text (the seventh form; the later family's looks); each row that meets fmt, with fmt's text TOLD by the authors' own Lean function (tested against real Go, not proved from fmt's source: count such statements apart). THE CARD IS WHAT COUNTS. Prove the row's statement (the work); the ties are given (YtafdijcolponjaaDoorTie.lean); close each card by the builder's one call (the guide's Derived/Test/ToyasCard.lean, 'card_holds'). Laid BY PROGRAM, IN A SANDBOX (cutbox-door.mjs). By AI agents, Wed Nov 11 2026. No macro, syntax, notation, axiom, sorry.
-/
import Derived.Test.YtafdijcolponjaaDoorRows
import GoSem.ClaimSeven
namespace Go.Proofs.YtafdijcolponjaaDoor
namespace Rows

/-- THE TIED CARD OF 'deemsterlaw18.BitsChange'. -/
def bitsChangeCard : Claim7 := { stood := { row := bitsChangeRow, standIns := [], harness := (true, "3b94aebd4b7e5b3a04bf0756cad03f2dbc3e91121abb93b8f0fd8a8327b0e0c1"), looks := false }, kinds := [], alts := [], laidByText := true, laidKinds := [.data], laidTests := true, laidLooks := .later }
def BitsChangeCardSaid : Prop := Claim7.holds Tryd.pinned (.plain (OpenSpec.ofChange bitsChangeSpec)) bitsChangeCard

/-- THE TIED CARD OF 'deemsterlaw18.BitsMeets'. -/
def bitsMeetsCard : Claim7 := { stood := { row := bitsMeetsRow, standIns := [], harness := (true, "3b94aebd4b7e5b3a04bf0756cad03f2dbc3e91121abb93b8f0fd8a8327b0e0c1"), looks := false }, kinds := [], alts := [], laidByText := true, laidKinds := [.data], laidTests := true, laidLooks := .later }
def BitsMeetsCardSaid : Prop := Claim7.holds Tryd.pinned (.plain (OpenSpec.ofChange bitsMeetsSpec)) bitsMeetsCard

/-- THE TIED CARD OF 'deemsterlaw18.BitsPlays'. -/
def bitsPlaysCard : Claim7 := { stood := { row := bitsPlaysRow, standIns := [], harness := (true, "3b94aebd4b7e5b3a04bf0756cad03f2dbc3e91121abb93b8f0fd8a8327b0e0c1"), looks := false }, kinds := [], alts := [], laidByText := true, laidKinds := [.data], laidTests := true, laidLooks := .later }
def BitsPlaysCardSaid : Prop := Claim7.holds Tryd.pinned (.plain (OpenSpec.ofChange bitsPlaysSpec)) bitsPlaysCard

/-- THE TIED CARD OF 'deemsterlaw18.BitsNone'. -/
def bitsNoneCard : Claim7 := { stood := { row := bitsNoneRow, standIns := [], harness := (true, "3b94aebd4b7e5b3a04bf0756cad03f2dbc3e91121abb93b8f0fd8a8327b0e0c1"), looks := false }, kinds := [], alts := [], laidByText := true, laidKinds := [.data], laidTests := true, laidLooks := .later }
def BitsNoneCardSaid : Prop := Claim7.holds Tryd.pinned (.plain (OpenSpec.ofChange bitsNoneSpec)) bitsNoneCard

/-- THE TIED CARD OF 'deemsterlaw19.GraphNew'. -/
def graphNewCard : Claim7 := { stood := { row := graphNewRow, standIns := [], harness := (true, "3b94aebd4b7e5b3a04bf0756cad03f2dbc3e91121abb93b8f0fd8a8327b0e0c1"), looks := false }, kinds := [], alts := [], laidByText := true, laidKinds := [.data], laidTests := true, laidLooks := .later }
def GraphNewCardSaid : Prop := Claim7.holds Tryd.pinned (.plain (OpenSpec.ofChange graphNewSpec)) graphNewCard

/-- THE TIED CARD OF 'deemsterlaw19.GraphUndoes'. -/
def graphUndoesCard : Claim7 := { stood := { row := graphUndoesRow, standIns := [], harness := (true, "3b94aebd4b7e5b3a04bf0756cad03f2dbc3e91121abb93b8f0fd8a8327b0e0c1"), looks := false }, kinds := [], alts := [], laidByText := true, laidKinds := [.data], laidTests := true, laidLooks := .later }
def GraphUndoesCardSaid : Prop := Claim7.holds Tryd.pinned (.plain (OpenSpec.ofChange graphUndoesSpec)) graphUndoesCard

/-- THE TIED CARD OF 'deemsterlaw19.GraphPlays'. -/
def graphPlaysCard : Claim7 := { stood := { row := graphPlaysRow, standIns := [], harness := (true, "3b94aebd4b7e5b3a04bf0756cad03f2dbc3e91121abb93b8f0fd8a8327b0e0c1"), looks := false }, kinds := [], alts := [], laidByText := true, laidKinds := [.data], laidTests := true, laidLooks := .later }
def GraphPlaysCardSaid : Prop := Claim7.holds Tryd.pinned (.plain (OpenSpec.ofChange graphPlaysSpec)) graphPlaysCard

/-- THE TIED CARD OF 'deemsterlaw19.GraphNone'. -/
def graphNoneCard : Claim7 := { stood := { row := graphNoneRow, standIns := [], harness := (true, "3b94aebd4b7e5b3a04bf0756cad03f2dbc3e91121abb93b8f0fd8a8327b0e0c1"), looks := false }, kinds := [], alts := [], laidByText := true, laidKinds := [.data], laidTests := true, laidLooks := .later }
def GraphNoneCardSaid : Prop := Claim7.holds Tryd.pinned (.plain (OpenSpec.ofChange graphNoneSpec)) graphNoneCard

/-- THE TIED CARD OF 'deemsterlaw22.TopoLeast'. -/
def topoLeastCard : Claim7 := { stood := { row := topoLeastRow, standIns := [], harness := (true, "3b94aebd4b7e5b3a04bf0756cad03f2dbc3e91121abb93b8f0fd8a8327b0e0c1"), looks := false }, kinds := [], alts := [], laidByText := true, laidKinds := [.data], laidTests := true, laidLooks := .later }
def TopoLeastCardSaid : Prop := Claim7.holds Tryd.pinned (.plain (OpenSpec.ofChange topoLeastSpec)) topoLeastCard

/-- THE TIED CARD OF 'deemsterlaw22.TopoIs'. -/
def topoIsCard : Claim7 := { stood := { row := topoIsRow, standIns := [], harness := (true, "3b94aebd4b7e5b3a04bf0756cad03f2dbc3e91121abb93b8f0fd8a8327b0e0c1"), looks := false }, kinds := [], alts := [], laidByText := true, laidKinds := [.data], laidTests := true, laidLooks := .later }
def TopoIsCardSaid : Prop := Claim7.holds Tryd.pinned (.plain (OpenSpec.ofChange topoIsSpec)) topoIsCard

/-- THE TIED CARD OF 'deemsterlaw22.TopoCounts'. -/
def topoCountsCard : Claim7 := { stood := { row := topoCountsRow, standIns := [], harness := (true, "3b94aebd4b7e5b3a04bf0756cad03f2dbc3e91121abb93b8f0fd8a8327b0e0c1"), looks := false }, kinds := [], alts := [], laidByText := true, laidKinds := [.data], laidTests := true, laidLooks := .later }
def TopoCountsCardSaid : Prop := Claim7.holds Tryd.pinned (.plain (OpenSpec.ofChange topoCountsSpec)) topoCountsCard

/-- THE TIED CARD OF 'deemsterlaw22.TopoRound'. -/
def topoRoundCard : Claim7 := { stood := { row := topoRoundRow, standIns := [], harness := (true, "3b94aebd4b7e5b3a04bf0756cad03f2dbc3e91121abb93b8f0fd8a8327b0e0c1"), looks := false }, kinds := [], alts := [], laidByText := true, laidKinds := [.data], laidTests := true, laidLooks := .later }
def TopoRoundCardSaid : Prop := Claim7.holds Tryd.pinned (.plain (OpenSpec.ofChange topoRoundSpec)) topoRoundCard

/-- THE TIED CARD OF 'deemsterlaw21.CloseThin'. -/
def closeThinCard : Claim7 := { stood := { row := closeThinRow, standIns := [], harness := (true, "3b94aebd4b7e5b3a04bf0756cad03f2dbc3e91121abb93b8f0fd8a8327b0e0c1"), looks := false }, kinds := [], alts := [], laidByText := true, laidKinds := [.data], laidTests := true, laidLooks := .later }
def CloseThinCardSaid : Prop := Claim7.holds Tryd.pinned (.plain (OpenSpec.ofChange closeThinSpec)) closeThinCard

/-- THE TIED CARD OF 'deemsterlaw21.CloseStays'. -/
def closeStaysCard : Claim7 := { stood := { row := closeStaysRow, standIns := [], harness := (true, "3b94aebd4b7e5b3a04bf0756cad03f2dbc3e91121abb93b8f0fd8a8327b0e0c1"), looks := false }, kinds := [], alts := [], laidByText := true, laidKinds := [.data], laidTests := true, laidLooks := .later }
def CloseStaysCardSaid : Prop := Claim7.holds Tryd.pinned (.plain (OpenSpec.ofChange closeStaysSpec)) closeStaysCard

/-- THE TIED CARD OF 'deemsterlaw21.CloseOf'. -/
def closeOfCard : Claim7 := { stood := { row := closeOfRow, standIns := [], harness := (true, "3b94aebd4b7e5b3a04bf0756cad03f2dbc3e91121abb93b8f0fd8a8327b0e0c1"), looks := false }, kinds := [], alts := [], laidByText := true, laidKinds := [.data], laidTests := true, laidLooks := .later }
def CloseOfCardSaid : Prop := Claim7.holds Tryd.pinned (.plain (OpenSpec.ofChange closeOfSpec)) closeOfCard

/-- THE TIED CARD OF 'deemsterlaw23.RingLeast'. -/
def ringLeastCard : Claim7 := { stood := { row := ringLeastRow, standIns := [], harness := (true, "3b94aebd4b7e5b3a04bf0756cad03f2dbc3e91121abb93b8f0fd8a8327b0e0c1"), looks := false }, kinds := [], alts := [], laidByText := true, laidKinds := [.data], laidTests := true, laidLooks := .later }
def RingLeastCardSaid : Prop := Claim7.holds Tryd.pinned (.plain (OpenSpec.ofChange ringLeastSpec)) ringLeastCard

/-- THE TIED CARD OF 'deemsterlaw23.RingIs'. -/
def ringIsCard : Claim7 := { stood := { row := ringIsRow, standIns := [], harness := (true, "3b94aebd4b7e5b3a04bf0756cad03f2dbc3e91121abb93b8f0fd8a8327b0e0c1"), looks := false }, kinds := [], alts := [], laidByText := true, laidKinds := [.data], laidTests := true, laidLooks := .later }
def RingIsCardSaid : Prop := Claim7.holds Tryd.pinned (.plain (OpenSpec.ofChange ringIsSpec)) ringIsCard

/-- THE TIED CARD OF 'deemsterlaw23.RingRound'. -/
def ringRoundCard : Claim7 := { stood := { row := ringRoundRow, standIns := [], harness := (true, "3b94aebd4b7e5b3a04bf0756cad03f2dbc3e91121abb93b8f0fd8a8327b0e0c1"), looks := false }, kinds := [], alts := [], laidByText := true, laidKinds := [.data], laidTests := true, laidLooks := .later }
def RingRoundCardSaid : Prop := Claim7.holds Tryd.pinned (.plain (OpenSpec.ofChange ringRoundSpec)) ringRoundCard

/-- THE SECOND FORM's CARD OF 'deemsterlaw18.BitsChange'. -/
def bitsChangeUptoCard : Claim7 := { stood := { row := bitsChangeUptoRow, standIns := [], harness := (true, "3b94aebd4b7e5b3a04bf0756cad03f2dbc3e91121abb93b8f0fd8a8327b0e0c1"), looks := false }, kinds := [], alts := [], laidByText := true, laidKinds := [.data], laidTests := true, laidLooks := .later }
def BitsChangeUptoCardSaid : Prop := Claim7.holds Tryd.pinned (.plain (OpenSpec.upto bitsChangeSpec)) bitsChangeUptoCard

/-- THE SECOND FORM's CARD OF 'deemsterlaw18.BitsMeets'. -/
def bitsMeetsUptoCard : Claim7 := { stood := { row := bitsMeetsUptoRow, standIns := [], harness := (true, "3b94aebd4b7e5b3a04bf0756cad03f2dbc3e91121abb93b8f0fd8a8327b0e0c1"), looks := false }, kinds := [], alts := [], laidByText := true, laidKinds := [.data], laidTests := true, laidLooks := .later }
def BitsMeetsUptoCardSaid : Prop := Claim7.holds Tryd.pinned (.plain (OpenSpec.upto bitsMeetsSpec)) bitsMeetsUptoCard

/-- THE SECOND FORM's CARD OF 'deemsterlaw18.BitsPlays'. -/
def bitsPlaysUptoCard : Claim7 := { stood := { row := bitsPlaysUptoRow, standIns := [], harness := (true, "3b94aebd4b7e5b3a04bf0756cad03f2dbc3e91121abb93b8f0fd8a8327b0e0c1"), looks := false }, kinds := [], alts := [], laidByText := true, laidKinds := [.data], laidTests := true, laidLooks := .later }
def BitsPlaysUptoCardSaid : Prop := Claim7.holds Tryd.pinned (.plain (OpenSpec.upto bitsPlaysSpec)) bitsPlaysUptoCard

/-- THE SECOND FORM's CARD OF 'deemsterlaw18.BitsNone'. -/
def bitsNoneUptoCard : Claim7 := { stood := { row := bitsNoneUptoRow, standIns := [], harness := (true, "3b94aebd4b7e5b3a04bf0756cad03f2dbc3e91121abb93b8f0fd8a8327b0e0c1"), looks := false }, kinds := [], alts := [], laidByText := true, laidKinds := [.data], laidTests := true, laidLooks := .later }
def BitsNoneUptoCardSaid : Prop := Claim7.holds Tryd.pinned (.plain (OpenSpec.upto bitsNoneSpec)) bitsNoneUptoCard

/-- THE SECOND FORM's CARD OF 'deemsterlaw19.GraphNew'. -/
def graphNewUptoCard : Claim7 := { stood := { row := graphNewUptoRow, standIns := [], harness := (true, "3b94aebd4b7e5b3a04bf0756cad03f2dbc3e91121abb93b8f0fd8a8327b0e0c1"), looks := false }, kinds := [], alts := [], laidByText := true, laidKinds := [.data], laidTests := true, laidLooks := .later }
def GraphNewUptoCardSaid : Prop := Claim7.holds Tryd.pinned (.plain (OpenSpec.upto graphNewSpec)) graphNewUptoCard

/-- THE SECOND FORM's CARD OF 'deemsterlaw19.GraphUndoes'. -/
def graphUndoesUptoCard : Claim7 := { stood := { row := graphUndoesUptoRow, standIns := [], harness := (true, "3b94aebd4b7e5b3a04bf0756cad03f2dbc3e91121abb93b8f0fd8a8327b0e0c1"), looks := false }, kinds := [], alts := [], laidByText := true, laidKinds := [.data], laidTests := true, laidLooks := .later }
def GraphUndoesUptoCardSaid : Prop := Claim7.holds Tryd.pinned (.plain (OpenSpec.upto graphUndoesSpec)) graphUndoesUptoCard

/-- THE SECOND FORM's CARD OF 'deemsterlaw19.GraphPlays'. -/
def graphPlaysUptoCard : Claim7 := { stood := { row := graphPlaysUptoRow, standIns := [], harness := (true, "3b94aebd4b7e5b3a04bf0756cad03f2dbc3e91121abb93b8f0fd8a8327b0e0c1"), looks := false }, kinds := [], alts := [], laidByText := true, laidKinds := [.data], laidTests := true, laidLooks := .later }
def GraphPlaysUptoCardSaid : Prop := Claim7.holds Tryd.pinned (.plain (OpenSpec.upto graphPlaysSpec)) graphPlaysUptoCard

/-- THE SECOND FORM's CARD OF 'deemsterlaw19.GraphNone'. -/
def graphNoneUptoCard : Claim7 := { stood := { row := graphNoneUptoRow, standIns := [], harness := (true, "3b94aebd4b7e5b3a04bf0756cad03f2dbc3e91121abb93b8f0fd8a8327b0e0c1"), looks := false }, kinds := [], alts := [], laidByText := true, laidKinds := [.data], laidTests := true, laidLooks := .later }
def GraphNoneUptoCardSaid : Prop := Claim7.holds Tryd.pinned (.plain (OpenSpec.upto graphNoneSpec)) graphNoneUptoCard

/-- THE SECOND FORM's CARD OF 'deemsterlaw22.TopoLeast'. -/
def topoLeastUptoCard : Claim7 := { stood := { row := topoLeastUptoRow, standIns := [], harness := (true, "3b94aebd4b7e5b3a04bf0756cad03f2dbc3e91121abb93b8f0fd8a8327b0e0c1"), looks := false }, kinds := [], alts := [], laidByText := true, laidKinds := [.data], laidTests := true, laidLooks := .later }
def TopoLeastUptoCardSaid : Prop := Claim7.holds Tryd.pinned (.plain (OpenSpec.upto topoLeastSpec)) topoLeastUptoCard

/-- THE SECOND FORM's CARD OF 'deemsterlaw22.TopoIs'. -/
def topoIsUptoCard : Claim7 := { stood := { row := topoIsUptoRow, standIns := [], harness := (true, "3b94aebd4b7e5b3a04bf0756cad03f2dbc3e91121abb93b8f0fd8a8327b0e0c1"), looks := false }, kinds := [], alts := [], laidByText := true, laidKinds := [.data], laidTests := true, laidLooks := .later }
def TopoIsUptoCardSaid : Prop := Claim7.holds Tryd.pinned (.plain (OpenSpec.upto topoIsSpec)) topoIsUptoCard

/-- THE SECOND FORM's CARD OF 'deemsterlaw22.TopoCounts'. -/
def topoCountsUptoCard : Claim7 := { stood := { row := topoCountsUptoRow, standIns := [], harness := (true, "3b94aebd4b7e5b3a04bf0756cad03f2dbc3e91121abb93b8f0fd8a8327b0e0c1"), looks := false }, kinds := [], alts := [], laidByText := true, laidKinds := [.data], laidTests := true, laidLooks := .later }
def TopoCountsUptoCardSaid : Prop := Claim7.holds Tryd.pinned (.plain (OpenSpec.upto topoCountsSpec)) topoCountsUptoCard

/-- THE SECOND FORM's CARD OF 'deemsterlaw22.TopoRound'. -/
def topoRoundUptoCard : Claim7 := { stood := { row := topoRoundUptoRow, standIns := [], harness := (true, "3b94aebd4b7e5b3a04bf0756cad03f2dbc3e91121abb93b8f0fd8a8327b0e0c1"), looks := false }, kinds := [], alts := [], laidByText := true, laidKinds := [.data], laidTests := true, laidLooks := .later }
def TopoRoundUptoCardSaid : Prop := Claim7.holds Tryd.pinned (.plain (OpenSpec.upto topoRoundSpec)) topoRoundUptoCard

/-- THE SECOND FORM's CARD OF 'deemsterlaw21.CloseThin'. -/
def closeThinUptoCard : Claim7 := { stood := { row := closeThinUptoRow, standIns := [], harness := (true, "3b94aebd4b7e5b3a04bf0756cad03f2dbc3e91121abb93b8f0fd8a8327b0e0c1"), looks := false }, kinds := [], alts := [], laidByText := true, laidKinds := [.data], laidTests := true, laidLooks := .later }
def CloseThinUptoCardSaid : Prop := Claim7.holds Tryd.pinned (.plain (OpenSpec.upto closeThinSpec)) closeThinUptoCard

/-- THE SECOND FORM's CARD OF 'deemsterlaw21.CloseStays'. -/
def closeStaysUptoCard : Claim7 := { stood := { row := closeStaysUptoRow, standIns := [], harness := (true, "3b94aebd4b7e5b3a04bf0756cad03f2dbc3e91121abb93b8f0fd8a8327b0e0c1"), looks := false }, kinds := [], alts := [], laidByText := true, laidKinds := [.data], laidTests := true, laidLooks := .later }
def CloseStaysUptoCardSaid : Prop := Claim7.holds Tryd.pinned (.plain (OpenSpec.upto closeStaysSpec)) closeStaysUptoCard

/-- THE SECOND FORM's CARD OF 'deemsterlaw21.CloseOf'. -/
def closeOfUptoCard : Claim7 := { stood := { row := closeOfUptoRow, standIns := [], harness := (true, "3b94aebd4b7e5b3a04bf0756cad03f2dbc3e91121abb93b8f0fd8a8327b0e0c1"), looks := false }, kinds := [], alts := [], laidByText := true, laidKinds := [.data], laidTests := true, laidLooks := .later }
def CloseOfUptoCardSaid : Prop := Claim7.holds Tryd.pinned (.plain (OpenSpec.upto closeOfSpec)) closeOfUptoCard

/-- THE SECOND FORM's CARD OF 'deemsterlaw23.RingLeast'. -/
def ringLeastUptoCard : Claim7 := { stood := { row := ringLeastUptoRow, standIns := [], harness := (true, "3b94aebd4b7e5b3a04bf0756cad03f2dbc3e91121abb93b8f0fd8a8327b0e0c1"), looks := false }, kinds := [], alts := [], laidByText := true, laidKinds := [.data], laidTests := true, laidLooks := .later }
def RingLeastUptoCardSaid : Prop := Claim7.holds Tryd.pinned (.plain (OpenSpec.upto ringLeastSpec)) ringLeastUptoCard

/-- THE SECOND FORM's CARD OF 'deemsterlaw23.RingIs'. -/
def ringIsUptoCard : Claim7 := { stood := { row := ringIsUptoRow, standIns := [], harness := (true, "3b94aebd4b7e5b3a04bf0756cad03f2dbc3e91121abb93b8f0fd8a8327b0e0c1"), looks := false }, kinds := [], alts := [], laidByText := true, laidKinds := [.data], laidTests := true, laidLooks := .later }
def RingIsUptoCardSaid : Prop := Claim7.holds Tryd.pinned (.plain (OpenSpec.upto ringIsSpec)) ringIsUptoCard

/-- THE SECOND FORM's CARD OF 'deemsterlaw23.RingRound'. -/
def ringRoundUptoCard : Claim7 := { stood := { row := ringRoundUptoRow, standIns := [], harness := (true, "3b94aebd4b7e5b3a04bf0756cad03f2dbc3e91121abb93b8f0fd8a8327b0e0c1"), looks := false }, kinds := [], alts := [], laidByText := true, laidKinds := [.data], laidTests := true, laidLooks := .later }
def RingRoundUptoCardSaid : Prop := Claim7.holds Tryd.pinned (.plain (OpenSpec.upto ringRoundSpec)) ringRoundUptoCard
end Rows
end Go.Proofs.YtafdijcolponjaaDoor
