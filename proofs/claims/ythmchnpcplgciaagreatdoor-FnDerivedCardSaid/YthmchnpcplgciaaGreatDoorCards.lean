/-
  DERIVED. GIVEN WITH THE SEED: THE CARDS: each row of YthmchnpcplgciaaGreatDoorRows.lean that lists a variable, with what it lists TIED to the program's text (the seventh form; the later family's looks); each row that meets fmt, with fmt's text TOLD by the authors' own Lean function (tested against real Go, not proved from fmt's source: count such statements apart). THE CARD IS WHAT COUNTS. Prove the row's statement (the work); the ties are given (YthmchnpcplgciaaGreatDoorTie.lean); close each card by the builder's one call (the guide's Derived/Test/ToyasCard.lean, 'card_holds'). Laid BY PROGRAM, IN A SANDBOX (cutbox-door.mjs). By AI agents, Wed Nov 11 2026. No macro, syntax, notation, axiom, sorry.
-/
import Derived.Test.YthmchnpcplgciaaGreatDoorRows
import GoSem.ClaimSeven
namespace Go.Proofs.YthmchnpcplgciaaGreatDoor
namespace Rows

/-- THE TIED CARD OF 'laws.FnDerived'. -/
def fnDerivedCard : Claim7 := { stood := { row := fnDerivedRow, standIns := [], harness := (true, "9b0bec55217c5bd16671b01496a0713f4efa50fdb53451cbc05531e7b72caee7"), looks := false }, kinds := [], alts := [], laidByText := true, laidKinds := [.widerDeep, .data, .widerDeep], laidTests := true, laidLooks := .later }
def FnDerivedCardSaid : Prop := Claim7.holds Tryz.pinned (.plain (OpenSpec.ofChange fnDerivedSpec)) fnDerivedCard

/-- THE TIED CARD OF 'laws.FnRead'. -/
def fnReadCard : Claim7 := { stood := { row := fnReadRow, standIns := [], harness := (true, "9b0bec55217c5bd16671b01496a0713f4efa50fdb53451cbc05531e7b72caee7"), looks := false }, kinds := [], alts := [], laidByText := true, laidKinds := [.widerDeep, .data, .widerDeep], laidTests := true, laidLooks := .later }
def FnReadCardSaid : Prop := Claim7.holds Tryz.pinned (.plain (OpenSpec.ofChange fnReadSpec)) fnReadCard

/-- THE SECOND FORM's CARD OF 'laws.FnDerived'. -/
def fnDerivedUptoCard : Claim7 := { stood := { row := fnDerivedUptoRow, standIns := [], harness := (true, "9b0bec55217c5bd16671b01496a0713f4efa50fdb53451cbc05531e7b72caee7"), looks := false }, kinds := [], alts := [], laidByText := true, laidKinds := [.widerDeep, .data, .widerDeep], laidTests := true, laidLooks := .later }
def FnDerivedUptoCardSaid : Prop := Claim7.holds Tryz.pinned (.plain (OpenSpec.upto fnDerivedSpec)) fnDerivedUptoCard

/-- THE SECOND FORM's CARD OF 'laws.FnRead'. -/
def fnReadUptoCard : Claim7 := { stood := { row := fnReadUptoRow, standIns := [], harness := (true, "9b0bec55217c5bd16671b01496a0713f4efa50fdb53451cbc05531e7b72caee7"), looks := false }, kinds := [], alts := [], laidByText := true, laidKinds := [.widerDeep, .data, .widerDeep], laidTests := true, laidLooks := .later }
def FnReadUptoCardSaid : Prop := Claim7.holds Tryz.pinned (.plain (OpenSpec.upto fnReadSpec)) fnReadUptoCard
end Rows
end Go.Proofs.YthmchnpcplgciaaGreatDoor
