/-
  DERIVED. GIVEN WITH THE SEED: THE CARDS: each row of YtbkndkcpmnjaeaaGreatDoorRows.lean that lists a variable, with what it lists TIED to the program's text (the seventh form; the later family's looks); each row that meets fmt, with fmt's text TOLD by the authors' own Lean function (tested against real Go, not proved from fmt's source: count such statements apart). THE CARD IS WHAT COUNTS. Prove the row's statement (the work); the ties are given (YtbkndkcpmnjaeaaGreatDoorTie.lean); close each card by the builder's one call (the guide's Derived/Test/ToyasCard.lean, 'card_holds'). Laid BY PROGRAM, IN A SANDBOX (cutbox-door.mjs). By AI agents, Wed Nov 11 2026. No macro, syntax, notation, axiom, sorry.
-/
import Derived.Test.YtbkndkcpmnjaeaaGreatDoorRows
import GoSem.ClaimSeven
namespace Go.Proofs.YtbkndkcpmnjaeaaGreatDoor
namespace Rows

/-- THE TIED CARD OF 'laws.FnOutlines'. -/
def fnOutlinesCard : Claim7 := { stood := { row := fnOutlinesRow, standIns := [], harness := (true, "bcfc7be536c5502d765610e5046d285aa941c2c3c1998a0fc0e328c646b85d7f"), looks := false }, kinds := [], alts := [], laidByText := true, laidKinds := [.data, .data, .data, .widerDeep, .data, .widerDeep], laidTests := true, laidLooks := .later }
def FnOutlinesCardSaid : Prop := Claim7.holds Tryz.pinned (.plain (OpenSpec.ofChange fnOutlinesSpec)) fnOutlinesCard

/-- THE SECOND FORM's CARD OF 'laws.FnOutlines'. -/
def fnOutlinesUptoCard : Claim7 := { stood := { row := fnOutlinesUptoRow, standIns := [], harness := (true, "bcfc7be536c5502d765610e5046d285aa941c2c3c1998a0fc0e328c646b85d7f"), looks := false }, kinds := [], alts := [], laidByText := true, laidKinds := [.data, .data, .data, .widerDeep, .data, .widerDeep], laidTests := true, laidLooks := .later }
def FnOutlinesUptoCardSaid : Prop := Claim7.holds Tryz.pinned (.plain (OpenSpec.upto fnOutlinesSpec)) fnOutlinesUptoCard
end Rows
end Go.Proofs.YtbkndkcpmnjaeaaGreatDoor
