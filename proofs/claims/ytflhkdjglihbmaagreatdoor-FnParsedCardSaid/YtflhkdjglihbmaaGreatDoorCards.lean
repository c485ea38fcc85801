/-
  DERIVED. GIVEN WITH THE SEED: THE CARDS: each row of YtflhkdjglihbmaaGreatDoorRows.lean that lists a variable, with what it lists TIED to the program's text (the seventh form; the later family's looks); each row that meets fmt, with fmt's text TOLD by the authors' own Lean function (tested against real Go, not proved from fmt's source: count such statements apart). THE CARD IS WHAT COUNTS. Prove the row's statement (the work); the ties are given (YtflhkdjglihbmaaGreatDoorTie.lean); close each card by the builder's one call (the guide's Derived/Test/ToyasCard.lean, 'card_holds'). Laid BY PROGRAM, IN A SANDBOX (cutbox-door.mjs). By AI agents, Wed Nov 11 2026. No macro, syntax, notation, axiom, sorry.
-/
import Derived.Test.YtflhkdjglihbmaaGreatDoorRows
import GoSem.ClaimSeven
namespace Go.Proofs.YtflhkdjglihbmaaGreatDoor
namespace Rows

/-- THE TIED CARD OF 'laws.FnParsed'. -/
def fnParsedCard : Claim7 := { stood := { row := fnParsedRow, standIns := [], harness := (true, "ccf5efb9839c65ed73a62c97206334f213ab1c40232f6271a13b7e5d0e3c8b97"), looks := false }, kinds := [], alts := [], laidByText := true, laidKinds := [.widerDeep, .data, .widerDeep], laidTests := true, laidLooks := .later }
def FnParsedCardSaid : Prop := Claim7.holds Tryz.pinned (.plain (OpenSpec.ofChange fnParsedSpec)) fnParsedCard

/-- THE SECOND FORM's CARD OF 'laws.FnParsed'. -/
def fnParsedUptoCard : Claim7 := { stood := { row := fnParsedUptoRow, standIns := [], harness := (true, "ccf5efb9839c65ed73a62c97206334f213ab1c40232f6271a13b7e5d0e3c8b97"), looks := false }, kinds := [], alts := [], laidByText := true, laidKinds := [.widerDeep, .data, .widerDeep], laidTests := true, laidLooks := .later }
def FnParsedUptoCardSaid : Prop := Claim7.holds Tryz.pinned (.plain (OpenSpec.upto fnParsedSpec)) fnParsedUptoCard
end Rows
end Go.Proofs.YtflhkdjglihbmaaGreatDoor
