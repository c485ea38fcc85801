/-
  DERIVED. GIVEN WITH THE SEED: THE CARDS: each row of YtpcdaeebbpedoaaGreatDoorRows.lean that lists a variable, with what it lists TIED to the program's text (the seventh form; the later family's looks); each row that meets fmt, with fmt's text TOLD by the authors' own Lean function (tested against real Go, not proved from fmt's source: count such statements apart). THE CARD IS WHAT COUNTS. Prove the row's statement (the work); the ties are given (YtpcdaeebbpedoaaGreatDoorTie.lean); close each card by the builder's one call (the guide's Derived/Test/ToyasCard.lean, 'card_holds'). Laid BY PROGRAM, IN A SANDBOX (cutbox-door.mjs). By AI agents, Wed Nov 11 2026. No macro, syntax, notation, axiom, sorry.
-/
import Derived.Test.YtpcdaeebbpedoaaGreatDoorRows
import GoSem.ClaimSeven
namespace Go.Proofs.YtpcdaeebbpedoaaGreatDoor
namespace Rows

/-- THE TIED CARD OF 'laws.FnExactSortFuncs'. -/
def fnExactSortFuncsCard : Claim7 := { stood := { row := fnExactSortFuncsRow, standIns := [], harness := (true, "71ff663811f517c30a3605712413bb99668741b722f6b214d0a3bf7a7cfd4902"), looks := false }, kinds := [], alts := [], laidByText := true, laidKinds := [.widerDeep, .data, .widerDeep], laidTests := true, laidLooks := .later }
def FnExactSortFuncsCardSaid : Prop := Claim7.holds Tryz.pinned (.plain (OpenSpec.ofChange fnExactSortFuncsSpec)) fnExactSortFuncsCard

/-- THE SECOND FORM's CARD OF 'laws.FnExactSortFuncs'. -/
def fnExactSortFuncsUptoCard : Claim7 := { stood := { row := fnExactSortFuncsUptoRow, standIns := [], harness := (true, "71ff663811f517c30a3605712413bb99668741b722f6b214d0a3bf7a7cfd4902"), looks := false }, kinds := [], alts := [], laidByText := true, laidKinds := [.widerDeep, .data, .widerDeep], laidTests := true, laidLooks := .later }
def FnExactSortFuncsUptoCardSaid : Prop := Claim7.holds Tryz.pinned (.plain (OpenSpec.upto fnExactSortFuncsSpec)) fnExactSortFuncsUptoCard
end Rows
end Go.Proofs.YtpcdaeebbpedoaaGreatDoor
