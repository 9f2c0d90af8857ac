/-
  DERIVED. GIVEN WITH THE SEED: THE CARDS: each row of YtnmofhngblebiaaGreatDoorRows.lean that lists a variable, with what it lists TIED to the program's text (the seventh form; the later family's looks); each row that meets fmt, with fmt's text TOLD by the authors' own Lean function (tested against real Go, not proved from fmt's source: count such statements apart). THE CARD IS WHAT COUNTS. Prove the row's statement (the work); the ties are given (YtnmofhngblebiaaGreatDoorTie.lean); close each card by the builder's one call (the guide's Derived/Test/ToyasCard.lean, 'card_holds'). Laid BY PROGRAM, IN A SANDBOX (cutbox-door.mjs). By AI agents, Wed Nov 11 2026. No macro, syntax, notation, axiom, sorry.
-/
import Derived.Test.YtnmofhngblebiaaGreatDoorRows
import GoSem.ClaimSeven
namespace Go.Proofs.YtnmofhngblebiaaGreatDoor
namespace Rows

/-- THE TIED CARD OF 'thunkmilllaw20.CodeMakes'. -/
def codeMakesCard : Claim7 := { stood := { row := codeMakesRow, standIns := [], harness := (true, "435afc77752b2effc9afca3db1525889e44d374b2afabeb71f2b19f882ecc794"), looks := true }, kinds := [], alts := [], laidByText := true, laidKinds := [.data, .data, .data], laidTests := true, laidLooks := .later }
def CodeMakesCardSaid : Prop := Claim7.holds Tryz.pinned (.plain (OpenSpec.ofChange codeMakesSpec)) codeMakesCard

/-- THE TIED CARD OF 'thunkmilllaw20.CodeSound'. -/
def codeSoundCard : Claim7 := { stood := { row := codeSoundRow, standIns := [], harness := (true, "435afc77752b2effc9afca3db1525889e44d374b2afabeb71f2b19f882ecc794"), looks := true }, kinds := [], alts := [], laidByText := true, laidKinds := [.data, .data, .data], laidTests := true, laidLooks := .later }
def CodeSoundCardSaid : Prop := Claim7.holds Tryz.pinned (.plain (OpenSpec.ofChange codeSoundSpec)) codeSoundCard

/-- THE SECOND FORM's CARD OF 'thunkmilllaw20.CodeMakes'. -/
def codeMakesUptoCard : Claim7 := { stood := { row := codeMakesUptoRow, standIns := [], harness := (true, "435afc77752b2effc9afca3db1525889e44d374b2afabeb71f2b19f882ecc794"), looks := true }, kinds := [], alts := [], laidByText := true, laidKinds := [.data, .data, .data], laidTests := true, laidLooks := .later }
def CodeMakesUptoCardSaid : Prop := Claim7.holds Tryz.pinned (.plain (OpenSpec.upto codeMakesSpec)) codeMakesUptoCard

/-- THE SECOND FORM's CARD OF 'thunkmilllaw20.CodeSound'. -/
def codeSoundUptoCard : Claim7 := { stood := { row := codeSoundUptoRow, standIns := [], harness := (true, "435afc77752b2effc9afca3db1525889e44d374b2afabeb71f2b19f882ecc794"), looks := true }, kinds := [], alts := [], laidByText := true, laidKinds := [.data, .data, .data], laidTests := true, laidLooks := .later }
def CodeSoundUptoCardSaid : Prop := Claim7.holds Tryz.pinned (.plain (OpenSpec.upto codeSoundSpec)) codeSoundUptoCard
end Rows
end Go.Proofs.YtnmofhngblebiaaGreatDoor
