/-
  DERIVED. GIVEN WITH THE SEED: THE CARDS: each row of YtoaeipkhadpbiaaGreatDoorRows.lean that lists a variable, with what it lists TIED to the program's text (the seventh form; the later family's looks); each row that meets fmt, with fmt's text TOLD by the authors' own Lean function (tested against real Go, not proved from fmt's source: count such statements apart). THE CARD IS WHAT COUNTS. Prove the row's statement (the work); the ties are given (YtoaeipkhadpbiaaGreatDoorTie.lean); close each card by the builder's one call (the guide's Derived/Test/ToyasCard.lean, 'card_holds'). Laid BY PROGRAM, IN A SANDBOX (cutbox-door.mjs). By AI agents, Wed Nov 11 2026. No macro, syntax, notation, axiom, sorry.
-/
import Derived.Test.YtoaeipkhadpbiaaGreatDoorRows
import GoSem.ClaimSeven
namespace Go.Proofs.YtoaeipkhadpbiaaGreatDoor
namespace Rows

/-- THE TIED CARD OF 'laws.FnExactParseTokens'. -/
def fnExactParseTokensCard : Claim7 := { stood := { row := fnExactParseTokensRow, standIns := [], harness := (true, "0515006d4cfd493926062aae67974e15ad067c34fb1e8b6a68684155c7f50e72"), looks := false }, kinds := [], alts := [], laidByText := true, laidKinds := [.widerDeep, .data, .widerDeep], laidTests := true, laidLooks := .later }
def FnExactParseTokensCardSaid : Prop := Claim7.holds Tryz.pinned (.plain (OpenSpec.ofChange fnExactParseTokensSpec)) fnExactParseTokensCard

/-- THE TIED CARD OF 'laws.FnExactParse'. -/
def fnExactParseCard : Claim7 := { stood := { row := fnExactParseRow, standIns := [], harness := (true, "0515006d4cfd493926062aae67974e15ad067c34fb1e8b6a68684155c7f50e72"), looks := false }, kinds := [], alts := [], laidByText := true, laidKinds := [.widerDeep, .data, .widerDeep], laidTests := true, laidLooks := .later }
def FnExactParseCardSaid : Prop := Claim7.holds Tryz.pinned (.plain (OpenSpec.ofChange fnExactParseSpec)) fnExactParseCard

/-- THE TIED CARD OF 'laws.FnExactSameProgram'. -/
def fnExactSameProgramCard : Claim7 := { stood := { row := fnExactSameProgramRow, standIns := [], harness := (true, "0515006d4cfd493926062aae67974e15ad067c34fb1e8b6a68684155c7f50e72"), looks := false }, kinds := [], alts := [], laidByText := true, laidKinds := [.widerDeep, .data, .widerDeep], laidTests := true, laidLooks := .later }
def FnExactSameProgramCardSaid : Prop := Claim7.holds Tryz.pinned (.plain (OpenSpec.ofChange fnExactSameProgramSpec)) fnExactSameProgramCard

/-- THE SECOND FORM's CARD OF 'laws.FnExactParseTokens'. -/
def fnExactParseTokensUptoCard : Claim7 := { stood := { row := fnExactParseTokensUptoRow, standIns := [], harness := (true, "0515006d4cfd493926062aae67974e15ad067c34fb1e8b6a68684155c7f50e72"), looks := false }, kinds := [], alts := [], laidByText := true, laidKinds := [.widerDeep, .data, .widerDeep], laidTests := true, laidLooks := .later }
def FnExactParseTokensUptoCardSaid : Prop := Claim7.holds Tryz.pinned (.plain (OpenSpec.upto fnExactParseTokensSpec)) fnExactParseTokensUptoCard

/-- THE SECOND FORM's CARD OF 'laws.FnExactParse'. -/
def fnExactParseUptoCard : Claim7 := { stood := { row := fnExactParseUptoRow, standIns := [], harness := (true, "0515006d4cfd493926062aae67974e15ad067c34fb1e8b6a68684155c7f50e72"), looks := false }, kinds := [], alts := [], laidByText := true, laidKinds := [.widerDeep, .data, .widerDeep], laidTests := true, laidLooks := .later }
def FnExactParseUptoCardSaid : Prop := Claim7.holds Tryz.pinned (.plain (OpenSpec.upto fnExactParseSpec)) fnExactParseUptoCard

/-- THE SECOND FORM's CARD OF 'laws.FnExactSameProgram'. -/
def fnExactSameProgramUptoCard : Claim7 := { stood := { row := fnExactSameProgramUptoRow, standIns := [], harness := (true, "0515006d4cfd493926062aae67974e15ad067c34fb1e8b6a68684155c7f50e72"), looks := false }, kinds := [], alts := [], laidByText := true, laidKinds := [.widerDeep, .data, .widerDeep], laidTests := true, laidLooks := .later }
def FnExactSameProgramUptoCardSaid : Prop := Claim7.holds Tryz.pinned (.plain (OpenSpec.upto fnExactSameProgramSpec)) fnExactSameProgramUptoCard
end Rows
end Go.Proofs.YtoaeipkhadpbiaaGreatDoor
