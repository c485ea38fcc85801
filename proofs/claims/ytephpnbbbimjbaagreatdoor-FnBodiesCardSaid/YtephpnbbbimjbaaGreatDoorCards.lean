/-
  DERIVED. GIVEN WITH THE SEED: THE CARDS: each row of YtephpnbbbimjbaaGreatDoorRows.lean that lists a variable, with what it lists TIED to the program's text (the seventh form; the later family's looks); each row that meets fmt, with fmt's text TOLD by the authors' own Lean function (tested against real Go, not proved from fmt's source: count such statements apart). THE CARD IS WHAT COUNTS. Prove the row's statement (the work); the ties are given (YtephpnbbbimjbaaGreatDoorTie.lean); close each card by the builder's one call (the guide's Derived/Test/ToyasCard.lean, 'card_holds'). Laid BY PROGRAM, IN A SANDBOX (cutbox-door.mjs). By AI agents, Wed Nov 11 2026. No macro, syntax, notation, axiom, sorry.
-/
import Derived.Test.YtephpnbbbimjbaaGreatDoorRows
import GoSem.ClaimSeven
namespace Go.Proofs.YtephpnbbbimjbaaGreatDoor
namespace Rows

/-- THE TIED CARD OF 'laws.FnBodies'. -/
def fnBodiesCard : Claim7 := { stood := { row := fnBodiesRow, standIns := [], harness := (true, "f2d4e59c87fddc55087f6e9d975b5dd2049e848867e6919c1640e774fcb34fb5"), looks := false }, kinds := [], alts := [], laidByText := true, laidKinds := [.widerDeep, .data, .widerDeep], laidTests := true, laidLooks := .later }
def FnBodiesCardSaid : Prop := Claim7.holds Tryz.pinned (.plain (OpenSpec.ofChange fnBodiesSpec)) fnBodiesCard

/-- THE SECOND FORM's CARD OF 'laws.FnBodies'. -/
def fnBodiesUptoCard : Claim7 := { stood := { row := fnBodiesUptoRow, standIns := [], harness := (true, "f2d4e59c87fddc55087f6e9d975b5dd2049e848867e6919c1640e774fcb34fb5"), looks := false }, kinds := [], alts := [], laidByText := true, laidKinds := [.widerDeep, .data, .widerDeep], laidTests := true, laidLooks := .later }
def FnBodiesUptoCardSaid : Prop := Claim7.holds Tryz.pinned (.plain (OpenSpec.upto fnBodiesSpec)) fnBodiesUptoCard
end Rows
end Go.Proofs.YtephpnbbbimjbaaGreatDoor
