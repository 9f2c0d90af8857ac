/-
  DERIVED. GIVEN WITH THE SEED: THE CARDS: each row of YtbemeikjepjhoaaGreatDoorRows.lean that lists a variable, with what it lists TIED to the program's text (the seventh form; the later family's looks); each row that meets fmt, with fmt's text TOLD by the authors' own Lean function (tested against real Go, not proved from fmt's source: count such statements apart). THE CARD IS WHAT COUNTS. Prove the row's statement (the work); the ties are given (YtbemeikjepjhoaaGreatDoorTie.lean); close each card by the builder's one call (the guide's Derived/Test/ToyasCard.lean, 'card_holds'). Laid BY PROGRAM, IN A SANDBOX (cutbox-door.mjs). By AI agents, Wed Nov 11 2026. No macro, syntax, notation, axiom, sorry.
-/
import Derived.Test.YtbemeikjepjhoaaGreatDoorRows
import GoSem.ClaimSeven
namespace Go.Proofs.YtbemeikjepjhoaaGreatDoor
namespace Rows

/-- THE TIED CARD OF 'thunkmilllaw18.PrepStays'. -/
def prepStaysCard : Claim7 := { stood := { row := prepStaysRow, standIns := [], harness := (true, "1a97884b38dd4cbae7010c6c39778a3199647e6e8ff0c408d28e63eca0b8dd21"), looks := true }, kinds := [], alts := [], laidByText := true, laidKinds := [.data, .data, .data], laidTests := true, laidLooks := .later }
def PrepStaysCardSaid : Prop := Claim7.holds Tryz.pinned (.plain (OpenSpec.ofChange prepStaysSpec)) prepStaysCard

/-- THE SECOND FORM's CARD OF 'thunkmilllaw18.PrepStays'. -/
def prepStaysUptoCard : Claim7 := { stood := { row := prepStaysUptoRow, standIns := [], harness := (true, "1a97884b38dd4cbae7010c6c39778a3199647e6e8ff0c408d28e63eca0b8dd21"), looks := true }, kinds := [], alts := [], laidByText := true, laidKinds := [.data, .data, .data], laidTests := true, laidLooks := .later }
def PrepStaysUptoCardSaid : Prop := Claim7.holds Tryz.pinned (.plain (OpenSpec.upto prepStaysSpec)) prepStaysUptoCard
end Rows
end Go.Proofs.YtbemeikjepjhoaaGreatDoor
