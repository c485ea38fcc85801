/-
  DERIVED. GIVEN WITH THE SEED: THE CARDS: each row of YtodbelembghegaaDoorRows.lean that lists a variable, with what it lists TIED to the program's text (the seventh form; the later family's looks); each row that meets fmt, with fmt's text TOLD by the authors' own Lean function (tested against real Go, not proved from fmt's source: count such statements apart). THE CARD IS WHAT COUNTS. Prove the row's statement (the work); the ties are given (YtodbelembghegaaDoorTie.lean); close each card by the builder's one call (the guide's Derived/Test/ToyasCard.lean, 'card_holds'). Laid BY PROGRAM, IN A SANDBOX (cutbox-door.mjs). By AI agents, Wed Nov 11 2026. No macro, syntax, notation, axiom, sorry.
-/
import Derived.Test.YtodbelembghegaaDoorRows
import GoSem.ClaimSeven
namespace Go.Proofs.YtodbelembghegaaDoor
namespace Rows

/-- THE TIED CARD OF 'laws.FnExactTrimmed'. -/
def fnExactTrimmedCard : Claim7 := { stood := { row := fnExactTrimmedRow, standIns := [], harness := (true, "b07cf913df83fb1eae190def971917d284a35f76beaaf1985e3294fb8a4d3aec"), looks := false }, kinds := [], alts := [], laidByText := true, laidKinds := [.data, .pinned], laidTests := true, laidLooks := .later }
def FnExactTrimmedCardSaid : Prop := Claim7.holds Tryd.pinned (.plain (OpenSpec.ofChange fnExactTrimmedSpec)) fnExactTrimmedCard

/-- THE TIED CARD OF 'laws.FnExactItemsOf'. -/
def fnExactItemsOfCard : Claim7 := { stood := { row := fnExactItemsOfRow, standIns := [], harness := (true, "b07cf913df83fb1eae190def971917d284a35f76beaaf1985e3294fb8a4d3aec"), looks := false }, kinds := [], alts := [], laidByText := true, laidKinds := [.widerDeep, .data, .widerDeep], laidTests := true, laidLooks := .later }
def FnExactItemsOfCardSaid : Prop := Claim7.holds Tryd.pinned (.plain (OpenSpec.ofChange fnExactItemsOfSpec)) fnExactItemsOfCard

/-- THE SECOND FORM's CARD OF 'laws.FnExactTrimmed'. -/
def fnExactTrimmedUptoCard : Claim7 := { stood := { row := fnExactTrimmedUptoRow, standIns := [], harness := (true, "b07cf913df83fb1eae190def971917d284a35f76beaaf1985e3294fb8a4d3aec"), looks := false }, kinds := [], alts := [], laidByText := true, laidKinds := [.data, .pinned], laidTests := true, laidLooks := .later }
def FnExactTrimmedUptoCardSaid : Prop := Claim7.holds Tryd.pinned (.plain (OpenSpec.upto fnExactTrimmedSpec)) fnExactTrimmedUptoCard

/-- THE SECOND FORM's CARD OF 'laws.FnExactItemsOf'. -/
def fnExactItemsOfUptoCard : Claim7 := { stood := { row := fnExactItemsOfUptoRow, standIns := [], harness := (true, "b07cf913df83fb1eae190def971917d284a35f76beaaf1985e3294fb8a4d3aec"), looks := false }, kinds := [], alts := [], laidByText := true, laidKinds := [.widerDeep, .data, .widerDeep], laidTests := true, laidLooks := .later }
def FnExactItemsOfUptoCardSaid : Prop := Claim7.holds Tryd.pinned (.plain (OpenSpec.upto fnExactItemsOfSpec)) fnExactItemsOfUptoCard
end Rows
end Go.Proofs.YtodbelembghegaaDoor
