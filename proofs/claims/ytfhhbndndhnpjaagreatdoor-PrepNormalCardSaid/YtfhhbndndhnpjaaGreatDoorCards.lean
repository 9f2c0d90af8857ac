/-
  DERIVED. GIVEN WITH THE SEED: THE CARDS: each row of YtfhhbndndhnpjaaGreatDoorRows.lean that lists a variable, with what it lists TIED to the program's text (the seventh form; the later family's looks); each row that meets fmt, with fmt's text TOLD by the authors' own Lean function (tested against real Go, not proved from fmt's source: count such statements apart). THE CARD IS WHAT COUNTS. Prove the row's statement (the work); the ties are given (YtfhhbndndhnpjaaGreatDoorTie.lean); close each card by the builder's one call (the guide's Derived/Test/ToyasCard.lean, 'card_holds'). Laid BY PROGRAM, IN A SANDBOX (cutbox-door.mjs). By AI agents, Wed Nov 11 2026. No macro, syntax, notation, axiom, sorry.
-/
import Derived.Test.YtfhhbndndhnpjaaGreatDoorRows
import GoSem.ClaimSeven
namespace Go.Proofs.YtfhhbndndhnpjaaGreatDoor
namespace Rows

/-- THE TIED CARD OF 'thunkmilllaw18.PrepNames'. -/
def prepNamesCard : Claim7 := { stood := { row := prepNamesRow, standIns := [], harness := (true, "c8d957e78d5291c1590f36852348fa04f5913304b617fb4f00f6c5b77d64230f"), looks := true }, kinds := [], alts := [], laidByText := true, laidKinds := [.data, .data, .data], laidTests := true, laidLooks := .later }
def PrepNamesCardSaid : Prop := Claim7.holds Tryz.pinned (.plain (OpenSpec.ofChange prepNamesSpec)) prepNamesCard

/-- THE TIED CARD OF 'thunkmilllaw18.PrepNormal'. -/
def prepNormalCard : Claim7 := { stood := { row := prepNormalRow, standIns := [], harness := (true, "c8d957e78d5291c1590f36852348fa04f5913304b617fb4f00f6c5b77d64230f"), looks := true }, kinds := [], alts := [], laidByText := true, laidKinds := [.data, .data, .data], laidTests := true, laidLooks := .later }
def PrepNormalCardSaid : Prop := Claim7.holds Tryz.pinned (.plain (OpenSpec.ofChange prepNormalSpec)) prepNormalCard

/-- THE TIED CARD OF 'thunkmilllaw18.PrepStays'. -/
def prepStaysCard : Claim7 := { stood := { row := prepStaysRow, standIns := [], harness := (true, "c8d957e78d5291c1590f36852348fa04f5913304b617fb4f00f6c5b77d64230f"), looks := true }, kinds := [], alts := [], laidByText := true, laidKinds := [.data, .data, .data], laidTests := true, laidLooks := .later }
def PrepStaysCardSaid : Prop := Claim7.holds Tryz.pinned (.plain (OpenSpec.ofChange prepStaysSpec)) prepStaysCard

/-- THE SECOND FORM's CARD OF 'thunkmilllaw18.PrepNames'. -/
def prepNamesUptoCard : Claim7 := { stood := { row := prepNamesUptoRow, standIns := [], harness := (true, "c8d957e78d5291c1590f36852348fa04f5913304b617fb4f00f6c5b77d64230f"), looks := true }, kinds := [], alts := [], laidByText := true, laidKinds := [.data, .data, .data], laidTests := true, laidLooks := .later }
def PrepNamesUptoCardSaid : Prop := Claim7.holds Tryz.pinned (.plain (OpenSpec.upto prepNamesSpec)) prepNamesUptoCard

/-- THE SECOND FORM's CARD OF 'thunkmilllaw18.PrepNormal'. -/
def prepNormalUptoCard : Claim7 := { stood := { row := prepNormalUptoRow, standIns := [], harness := (true, "c8d957e78d5291c1590f36852348fa04f5913304b617fb4f00f6c5b77d64230f"), looks := true }, kinds := [], alts := [], laidByText := true, laidKinds := [.data, .data, .data], laidTests := true, laidLooks := .later }
def PrepNormalUptoCardSaid : Prop := Claim7.holds Tryz.pinned (.plain (OpenSpec.upto prepNormalSpec)) prepNormalUptoCard

/-- THE SECOND FORM's CARD OF 'thunkmilllaw18.PrepStays'. -/
def prepStaysUptoCard : Claim7 := { stood := { row := prepStaysUptoRow, standIns := [], harness := (true, "c8d957e78d5291c1590f36852348fa04f5913304b617fb4f00f6c5b77d64230f"), looks := true }, kinds := [], alts := [], laidByText := true, laidKinds := [.data, .data, .data], laidTests := true, laidLooks := .later }
def PrepStaysUptoCardSaid : Prop := Claim7.holds Tryz.pinned (.plain (OpenSpec.upto prepStaysSpec)) prepStaysUptoCard
end Rows
end Go.Proofs.YtfhhbndndhnpjaaGreatDoor
