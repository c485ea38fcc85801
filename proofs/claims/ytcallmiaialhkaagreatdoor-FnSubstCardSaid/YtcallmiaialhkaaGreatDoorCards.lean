/-
  DERIVED. GIVEN WITH THE SEED: THE CARDS: each row of YtcallmiaialhkaaGreatDoorRows.lean that lists a variable, with what it lists TIED to the program's text (the seventh form; the later family's looks); each row that meets fmt, with fmt's text TOLD by the authors' own Lean function (tested against real Go, not proved from fmt's source: count such statements apart). THE CARD IS WHAT COUNTS. Prove the row's statement (the work); the ties are given (YtcallmiaialhkaaGreatDoorTie.lean); close each card by the builder's one call (the guide's Derived/Test/ToyasCard.lean, 'card_holds'). Laid BY PROGRAM, IN A SANDBOX (cutbox-door.mjs). By AI agents, Wed Nov 11 2026. No macro, syntax, notation, axiom, sorry.
-/
import Derived.Test.YtcallmiaialhkaaGreatDoorRows
import GoSem.ClaimSeven
namespace Go.Proofs.YtcallmiaialhkaaGreatDoor
namespace Rows

/-- THE TIED CARD OF 'laws.FnSubst'. -/
def fnSubstCard : Claim7 := { stood := { row := fnSubstRow, standIns := [], harness := (true, "de4da7a163afbc3deeac2bdc6b7c07a88b2691940087fcd974f47216958c14f8"), looks := true }, kinds := [], alts := [], laidByText := true, laidKinds := [.data, .data, .data, .sentinel, .sentinel, .widerDeep, .data, .widerDeep], laidTests := true, laidLooks := .later }
def FnSubstCardSaid : Prop := Claim7.holds Tryz.pinned (.plain (OpenSpec.ofChange fnSubstSpec)) fnSubstCard

/-- THE SECOND FORM's CARD OF 'laws.FnSubst'. -/
def fnSubstUptoCard : Claim7 := { stood := { row := fnSubstUptoRow, standIns := [], harness := (true, "de4da7a163afbc3deeac2bdc6b7c07a88b2691940087fcd974f47216958c14f8"), looks := true }, kinds := [], alts := [], laidByText := true, laidKinds := [.data, .data, .data, .sentinel, .sentinel, .widerDeep, .data, .widerDeep], laidTests := true, laidLooks := .later }
def FnSubstUptoCardSaid : Prop := Claim7.holds Tryz.pinned (.plain (OpenSpec.upto fnSubstSpec)) fnSubstUptoCard
end Rows
end Go.Proofs.YtcallmiaialhkaaGreatDoor
