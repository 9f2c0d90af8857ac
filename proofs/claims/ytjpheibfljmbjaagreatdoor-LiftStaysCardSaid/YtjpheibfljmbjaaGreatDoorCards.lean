/-
  DERIVED. GIVEN WITH THE SEED: THE CARDS: each row of YtjpheibfljmbjaaGreatDoorRows.lean that lists a variable, with what it lists TIED to the program's text (the seventh form; the later family's looks); each row that meets fmt, with fmt's text TOLD by the authors' own Lean function (tested against real Go, not proved from fmt's source: count such statements apart). THE CARD IS WHAT COUNTS. Prove the row's statement (the work); the ties are given (YtjpheibfljmbjaaGreatDoorTie.lean); close each card by the builder's one call (the guide's Derived/Test/ToyasCard.lean, 'card_holds'). Laid BY PROGRAM, IN A SANDBOX (cutbox-door.mjs). By AI agents, Wed Nov 11 2026. No macro, syntax, notation, axiom, sorry.
-/
import Derived.Test.YtjpheibfljmbjaaGreatDoorRows
import GoSem.ClaimSeven
namespace Go.Proofs.YtjpheibfljmbjaaGreatDoor
namespace Rows

/-- THE TIED CARD OF 'thunkmilllaw19.LiftStays'. -/
def liftStaysCard : Claim7 := { stood := { row := liftStaysRow, standIns := [], harness := (true, "24a3db37e77d4d5229e363c755340d423e2f5fc0e966b74098f7c60700ecef14"), looks := true }, kinds := [], alts := [], laidByText := true, laidKinds := [.data, .data, .data], laidTests := true, laidLooks := .later }
def LiftStaysCardSaid : Prop := Claim7.holds Tryz.pinned (.plain (OpenSpec.ofChange liftStaysSpec)) liftStaysCard

/-- THE SECOND FORM's CARD OF 'thunkmilllaw19.LiftStays'. -/
def liftStaysUptoCard : Claim7 := { stood := { row := liftStaysUptoRow, standIns := [], harness := (true, "24a3db37e77d4d5229e363c755340d423e2f5fc0e966b74098f7c60700ecef14"), looks := true }, kinds := [], alts := [], laidByText := true, laidKinds := [.data, .data, .data], laidTests := true, laidLooks := .later }
def LiftStaysUptoCardSaid : Prop := Claim7.holds Tryz.pinned (.plain (OpenSpec.upto liftStaysSpec)) liftStaysUptoCard
end Rows
end Go.Proofs.YtjpheibfljmbjaaGreatDoor
