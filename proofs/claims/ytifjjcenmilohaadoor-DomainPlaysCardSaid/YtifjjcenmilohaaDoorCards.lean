/-
  DERIVED. GIVEN WITH THE SEED: THE CARDS: each row of YtifjjcenmilohaaDoorRows.lean that lists a variable, with what it lists TIED to the program's text (the seventh form; the later family's looks); each row that meets fmt, with fmt's text TOLD by the authors' own Lean function (tested against real Go, not proved from fmt's source: count such statements apart). THE CARD IS WHAT COUNTS. Prove the row's statement (the work); the ties are given (YtifjjcenmilohaaDoorTie.lean); close each card by the builder's one call (the guide's Derived/Test/ToyasCard.lean, 'card_holds'). Laid BY PROGRAM, IN A SANDBOX (cutbox-door.mjs). By AI agents, Wed Nov 11 2026. No macro, syntax, notation, axiom, sorry.
-/
import Derived.Test.YtifjjcenmilohaaDoorRows
import GoSem.ClaimSeven
namespace Go.Proofs.YtifjjcenmilohaaDoor
namespace Rows

/-- THE TIED CARD OF 'deemsterlaw32.DomainPlays'. -/
def domainPlaysCard : Claim7 := { stood := { row := domainPlaysRow, standIns := [], harness := (true, "ee4be92161df478b06a8c8fa7c07e3e105b3a4585ecc13957bc59b2f6ca1a96c"), looks := false }, kinds := [], alts := [], laidByText := true, laidKinds := [.data, .data], laidTests := true, laidLooks := .later }
def DomainPlaysCardSaid : Prop := Claim7.holds Tryd.pinned (.plain (OpenSpec.ofChange domainPlaysSpec)) domainPlaysCard

/-- THE TIED CARD OF 'deemsterlaw32.DomainKeeps'. -/
def domainKeepsCard : Claim7 := { stood := { row := domainKeepsRow, standIns := [], harness := (true, "ee4be92161df478b06a8c8fa7c07e3e105b3a4585ecc13957bc59b2f6ca1a96c"), looks := false }, kinds := [], alts := [], laidByText := true, laidKinds := [.data, .data], laidTests := true, laidLooks := .later }
def DomainKeepsCardSaid : Prop := Claim7.holds Tryd.pinned (.plain (OpenSpec.ofChange domainKeepsSpec)) domainKeepsCard

/-- THE TIED CARD OF 'deemsterlaw32.DomainNone'. -/
def domainNoneCard : Claim7 := { stood := { row := domainNoneRow, standIns := [], harness := (true, "ee4be92161df478b06a8c8fa7c07e3e105b3a4585ecc13957bc59b2f6ca1a96c"), looks := false }, kinds := [], alts := [], laidByText := true, laidKinds := [.data, .data], laidTests := true, laidLooks := .later }
def DomainNoneCardSaid : Prop := Claim7.holds Tryd.pinned (.plain (OpenSpec.ofChange domainNoneSpec)) domainNoneCard

/-- THE SECOND FORM's CARD OF 'deemsterlaw32.DomainPlays'. -/
def domainPlaysUptoCard : Claim7 := { stood := { row := domainPlaysUptoRow, standIns := [], harness := (true, "ee4be92161df478b06a8c8fa7c07e3e105b3a4585ecc13957bc59b2f6ca1a96c"), looks := false }, kinds := [], alts := [], laidByText := true, laidKinds := [.data, .data], laidTests := true, laidLooks := .later }
def DomainPlaysUptoCardSaid : Prop := Claim7.holds Tryd.pinned (.plain (OpenSpec.upto domainPlaysSpec)) domainPlaysUptoCard

/-- THE SECOND FORM's CARD OF 'deemsterlaw32.DomainKeeps'. -/
def domainKeepsUptoCard : Claim7 := { stood := { row := domainKeepsUptoRow, standIns := [], harness := (true, "ee4be92161df478b06a8c8fa7c07e3e105b3a4585ecc13957bc59b2f6ca1a96c"), looks := false }, kinds := [], alts := [], laidByText := true, laidKinds := [.data, .data], laidTests := true, laidLooks := .later }
def DomainKeepsUptoCardSaid : Prop := Claim7.holds Tryd.pinned (.plain (OpenSpec.upto domainKeepsSpec)) domainKeepsUptoCard

/-- THE SECOND FORM's CARD OF 'deemsterlaw32.DomainNone'. -/
def domainNoneUptoCard : Claim7 := { stood := { row := domainNoneUptoRow, standIns := [], harness := (true, "ee4be92161df478b06a8c8fa7c07e3e105b3a4585ecc13957bc59b2f6ca1a96c"), looks := false }, kinds := [], alts := [], laidByText := true, laidKinds := [.data, .data], laidTests := true, laidLooks := .later }
def DomainNoneUptoCardSaid : Prop := Claim7.holds Tryd.pinned (.plain (OpenSpec.upto domainNoneSpec)) domainNoneUptoCard
end Rows
end Go.Proofs.YtifjjcenmilohaaDoor
