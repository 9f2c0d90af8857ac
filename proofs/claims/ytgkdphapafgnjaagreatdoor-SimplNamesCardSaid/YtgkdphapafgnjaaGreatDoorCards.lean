/-
  DERIVED. GIVEN WITH THE SEED: THE CARDS: each row of YtgkdphapafgnjaaGreatDoorRows.lean that lists a variable, with what it lists TIED to the program's text (the seventh form; the later family's looks); each row that meets fmt, with fmt's text TOLD by the authors' own Lean function (tested against real Go, not proved from fmt's source: count such statements apart). THE CARD IS WHAT COUNTS. Prove the row's statement (the work); the ties are given (YtgkdphapafgnjaaGreatDoorTie.lean); close each card by the builder's one call (the guide's Derived/Test/ToyasCard.lean, 'card_holds'). Laid BY PROGRAM, IN A SANDBOX (cutbox-door.mjs). By AI agents, Wed Nov 11 2026. No macro, syntax, notation, axiom, sorry.
-/
import Derived.Test.YtgkdphapafgnjaaGreatDoorRows
import GoSem.ClaimSeven
namespace Go.Proofs.YtgkdphapafgnjaaGreatDoor
namespace Rows

/-- THE TIED CARD OF 'thunkmilllaw17.SimplNames'. -/
def simplNamesCard : Claim7 := { stood := { row := simplNamesRow, standIns := [], harness := (true, "0ab2620c0d02aedef81034b5a1c8478200e9aa273f0f2d5c822c898a02ab370d"), looks := false }, kinds := [], alts := [], laidByText := true, laidKinds := [.data, .data, .data], laidTests := true, laidLooks := .later }
def SimplNamesCardSaid : Prop := Claim7.holds Tryz.pinned (.plain (OpenSpec.ofChange simplNamesSpec)) simplNamesCard

/-- THE TIED CARD OF 'thunkmilllaw17.SimplRules'. -/
def simplRulesCard : Claim7 := { stood := { row := simplRulesRow, standIns := [], harness := (true, "0ab2620c0d02aedef81034b5a1c8478200e9aa273f0f2d5c822c898a02ab370d"), looks := false }, kinds := [], alts := [], laidByText := true, laidKinds := [.data, .data, .data], laidTests := true, laidLooks := .later }
def SimplRulesCardSaid : Prop := Claim7.holds Tryz.pinned (.plain (OpenSpec.ofChange simplRulesSpec)) simplRulesCard

/-- THE TIED CARD OF 'thunkmilllaw17.SimplPasses'. -/
def simplPassesCard : Claim7 := { stood := { row := simplPassesRow, standIns := [], harness := (true, "0ab2620c0d02aedef81034b5a1c8478200e9aa273f0f2d5c822c898a02ab370d"), looks := false }, kinds := [], alts := [], laidByText := true, laidKinds := [.data, .data, .data], laidTests := true, laidLooks := .later }
def SimplPassesCardSaid : Prop := Claim7.holds Tryz.pinned (.plain (OpenSpec.ofChange simplPassesSpec)) simplPassesCard

/-- THE SECOND FORM's CARD OF 'thunkmilllaw17.SimplNames'. -/
def simplNamesUptoCard : Claim7 := { stood := { row := simplNamesUptoRow, standIns := [], harness := (true, "0ab2620c0d02aedef81034b5a1c8478200e9aa273f0f2d5c822c898a02ab370d"), looks := false }, kinds := [], alts := [], laidByText := true, laidKinds := [.data, .data, .data], laidTests := true, laidLooks := .later }
def SimplNamesUptoCardSaid : Prop := Claim7.holds Tryz.pinned (.plain (OpenSpec.upto simplNamesSpec)) simplNamesUptoCard

/-- THE SECOND FORM's CARD OF 'thunkmilllaw17.SimplRules'. -/
def simplRulesUptoCard : Claim7 := { stood := { row := simplRulesUptoRow, standIns := [], harness := (true, "0ab2620c0d02aedef81034b5a1c8478200e9aa273f0f2d5c822c898a02ab370d"), looks := false }, kinds := [], alts := [], laidByText := true, laidKinds := [.data, .data, .data], laidTests := true, laidLooks := .later }
def SimplRulesUptoCardSaid : Prop := Claim7.holds Tryz.pinned (.plain (OpenSpec.upto simplRulesSpec)) simplRulesUptoCard

/-- THE SECOND FORM's CARD OF 'thunkmilllaw17.SimplPasses'. -/
def simplPassesUptoCard : Claim7 := { stood := { row := simplPassesUptoRow, standIns := [], harness := (true, "0ab2620c0d02aedef81034b5a1c8478200e9aa273f0f2d5c822c898a02ab370d"), looks := false }, kinds := [], alts := [], laidByText := true, laidKinds := [.data, .data, .data], laidTests := true, laidLooks := .later }
def SimplPassesUptoCardSaid : Prop := Claim7.holds Tryz.pinned (.plain (OpenSpec.upto simplPassesSpec)) simplPassesUptoCard
end Rows
end Go.Proofs.YtgkdphapafgnjaaGreatDoor
