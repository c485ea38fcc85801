/-
  DERIVED. GIVEN WITH THE SEED: THE CARDS: each row of YtfbemlhfieemhabDoorRows.lean that lists a variable, with what it lists TIED to the program's text (the seventh form; the later family's looks); each row that meets fmt, with fmt's text TOLD by the authors' own Lean function (tested against real Go, not proved from fmt's source: count such statements apart). THE CARD IS WHAT COUNTS. Prove the row's statement (the work); the ties are given (YtfbemlhfieemhabDoorTie.lean); close each card by the builder's one call (the guide's Derived/Test/ToyasCard.lean, 'card_holds'). Laid BY PROGRAM, IN A SANDBOX (cutbox-door.mjs). By AI agents, Wed Nov 11 2026. No macro, syntax, notation, axiom, sorry.
-/
import Derived.Test.YtfbemlhfieemhabDoorRows
import GoSem.ClaimSeven
namespace Go.Proofs.YtfbemlhfieemhabDoor
namespace Rows

/-- THE TIED CARD OF 'laws.FnExactStyleOf'. -/
def fnExactStyleOfCard : Claim7 := { stood := { row := fnExactStyleOfRow, standIns := [], harness := (true, "b01704e6f4bed729e8dc904610783c497d5dc14a6b80004c40ad6610539c39c4"), looks := false }, kinds := [], alts := [], laidByText := true, laidKinds := [.data, .pinned], laidTests := true, laidLooks := .later }
def FnExactStyleOfCardSaid : Prop := Claim7.holds Tryd.pinned (.plain (OpenSpec.ofChange fnExactStyleOfSpec)) fnExactStyleOfCard

/-- THE SECOND FORM's CARD OF 'laws.FnExactStyleOf'. -/
def fnExactStyleOfUptoCard : Claim7 := { stood := { row := fnExactStyleOfUptoRow, standIns := [], harness := (true, "b01704e6f4bed729e8dc904610783c497d5dc14a6b80004c40ad6610539c39c4"), looks := false }, kinds := [], alts := [], laidByText := true, laidKinds := [.data, .pinned], laidTests := true, laidLooks := .later }
def FnExactStyleOfUptoCardSaid : Prop := Claim7.holds Tryd.pinned (.plain (OpenSpec.upto fnExactStyleOfSpec)) fnExactStyleOfUptoCard
end Rows
end Go.Proofs.YtfbemlhfieemhabDoor
