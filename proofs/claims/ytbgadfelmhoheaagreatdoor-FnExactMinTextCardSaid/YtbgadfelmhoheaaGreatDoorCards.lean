/-
  DERIVED. GIVEN WITH THE SEED: THE CARDS: each row of YtbgadfelmhoheaaGreatDoorRows.lean that lists a variable, with what it lists TIED to the program's text (the seventh form; the later family's looks); each row that meets fmt, with fmt's text TOLD by the authors' own Lean function (tested against real Go, not proved from fmt's source: count such statements apart). THE CARD IS WHAT COUNTS. Prove the row's statement (the work); the ties are given (YtbgadfelmhoheaaGreatDoorTie.lean); close each card by the builder's one call (the guide's Derived/Test/ToyasCard.lean, 'card_holds'). Laid BY PROGRAM, IN A SANDBOX (cutbox-door.mjs). By AI agents, Wed Nov 11 2026. No macro, syntax, notation, axiom, sorry.
-/
import Derived.Test.YtbgadfelmhoheaaGreatDoorRows
import GoSem.ClaimSeven
namespace Go.Proofs.YtbgadfelmhoheaaGreatDoor
namespace Rows

/-- THE TIED CARD OF 'laws.FnExactOutline'. -/
def fnExactOutlineCard : Claim7 := { stood := { row := fnExactOutlineRow, standIns := [], harness := (true, "79173ea07ee310c837f9e8e38392cb76fcf68be2eb7dc0ccd049517b460220d0"), looks := false }, kinds := [], alts := [], laidByText := true, laidKinds := [.data, .data, .data, .widerDeep, .data, .widerDeep], laidTests := true, laidLooks := .later }
def FnExactOutlineCardSaid : Prop := Claim7.holds Tryz.pinned (.plain (OpenSpec.ofChange fnExactOutlineSpec)) fnExactOutlineCard

/-- THE TIED CARD OF 'laws.FnExactMinText'. -/
def fnExactMinTextCard : Claim7 := { stood := { row := fnExactMinTextRow, standIns := [], harness := (true, "79173ea07ee310c837f9e8e38392cb76fcf68be2eb7dc0ccd049517b460220d0"), looks := false }, kinds := [], alts := [], laidByText := true, laidKinds := [.widerDeep, .data, .widerDeep], laidTests := true, laidLooks := .later }
def FnExactMinTextCardSaid : Prop := Claim7.holds Tryz.pinned (.plain (OpenSpec.ofChange fnExactMinTextSpec)) fnExactMinTextCard

/-- THE SECOND FORM's CARD OF 'laws.FnExactOutline'. -/
def fnExactOutlineUptoCard : Claim7 := { stood := { row := fnExactOutlineUptoRow, standIns := [], harness := (true, "79173ea07ee310c837f9e8e38392cb76fcf68be2eb7dc0ccd049517b460220d0"), looks := false }, kinds := [], alts := [], laidByText := true, laidKinds := [.data, .data, .data, .widerDeep, .data, .widerDeep], laidTests := true, laidLooks := .later }
def FnExactOutlineUptoCardSaid : Prop := Claim7.holds Tryz.pinned (.plain (OpenSpec.upto fnExactOutlineSpec)) fnExactOutlineUptoCard

/-- THE SECOND FORM's CARD OF 'laws.FnExactMinText'. -/
def fnExactMinTextUptoCard : Claim7 := { stood := { row := fnExactMinTextUptoRow, standIns := [], harness := (true, "79173ea07ee310c837f9e8e38392cb76fcf68be2eb7dc0ccd049517b460220d0"), looks := false }, kinds := [], alts := [], laidByText := true, laidKinds := [.widerDeep, .data, .widerDeep], laidTests := true, laidLooks := .later }
def FnExactMinTextUptoCardSaid : Prop := Claim7.holds Tryz.pinned (.plain (OpenSpec.upto fnExactMinTextSpec)) fnExactMinTextUptoCard
end Rows
end Go.Proofs.YtbgadfelmhoheaaGreatDoor
