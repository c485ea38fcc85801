/-
  DERIVED. GIVEN WITH THE SEED: THE CARDS: each row of YtodbelembghegaaGreatDoorRows.lean that lists a variable, with what it lists TIED to the program's text (the seventh form; the later family's looks); each row that meets fmt, with fmt's text TOLD by the authors' own Lean function (tested against real Go, not proved from fmt's source: count such statements apart). THE CARD IS WHAT COUNTS. Prove the row's statement (the work); the ties are given (YtodbelembghegaaGreatDoorTie.lean); close each card by the builder's one call (the guide's Derived/Test/ToyasCard.lean, 'card_holds'). Laid BY PROGRAM, IN A SANDBOX (cutbox-door.mjs). By AI agents, Wed Nov 11 2026. No macro, syntax, notation, axiom, sorry.
-/
import Derived.Test.YtodbelembghegaaGreatDoorRows
import GoSem.ClaimSeven
namespace Go.Proofs.YtodbelembghegaaGreatDoor
namespace Rows

/-- THE TIED CARD OF 'laws.FnExactMerge'. -/
def fnExactMergeCard : Claim7 := { stood := { row := fnExactMergeRow, standIns := [], harness := (true, "02c94efbeef78bd51616f1637dd35e364ae9c3f6c0388a0f0b2a43bf7fae09ae"), looks := false }, kinds := [], alts := [], laidByText := true, laidKinds := [.widerDeep, .data, .widerDeep], laidTests := true, laidLooks := .later }
def FnExactMergeCardSaid : Prop := Claim7.holds Tryz.pinned (.plain (OpenSpec.ofChange fnExactMergeSpec)) fnExactMergeCard

/-- THE TIED CARD OF 'laws.FnExactSubst'. -/
def fnExactSubstCard : Claim7 := { stood := { row := fnExactSubstRow, standIns := [], harness := (true, "02c94efbeef78bd51616f1637dd35e364ae9c3f6c0388a0f0b2a43bf7fae09ae"), looks := false }, kinds := [], alts := [], laidByText := true, laidKinds := [.widerDeep, .data, .widerDeep], laidTests := true, laidLooks := .later }
def FnExactSubstCardSaid : Prop := Claim7.holds Tryz.pinned (.plain (OpenSpec.ofChange fnExactSubstSpec)) fnExactSubstCard

/-- THE TIED CARD OF 'laws.FnExactSortFuncs'. -/
def fnExactSortFuncsCard : Claim7 := { stood := { row := fnExactSortFuncsRow, standIns := [], harness := (true, "02c94efbeef78bd51616f1637dd35e364ae9c3f6c0388a0f0b2a43bf7fae09ae"), looks := false }, kinds := [], alts := [], laidByText := true, laidKinds := [.widerDeep, .data, .widerDeep], laidTests := true, laidLooks := .later }
def FnExactSortFuncsCardSaid : Prop := Claim7.holds Tryz.pinned (.plain (OpenSpec.ofChange fnExactSortFuncsSpec)) fnExactSortFuncsCard

/-- THE TIED CARD OF 'laws.FnExactCallsOf'. -/
def fnExactCallsOfCard : Claim7 := { stood := { row := fnExactCallsOfRow, standIns := [], harness := (true, "02c94efbeef78bd51616f1637dd35e364ae9c3f6c0388a0f0b2a43bf7fae09ae"), looks := false }, kinds := [], alts := [], laidByText := true, laidKinds := [.widerDeep, .data, .widerDeep], laidTests := true, laidLooks := .later }
def FnExactCallsOfCardSaid : Prop := Claim7.holds Tryz.pinned (.plain (OpenSpec.ofChange fnExactCallsOfSpec)) fnExactCallsOfCard

/-- THE TIED CARD OF 'laws.FnExactRecursive'. -/
def fnExactRecursiveCard : Claim7 := { stood := { row := fnExactRecursiveRow, standIns := [], harness := (true, "02c94efbeef78bd51616f1637dd35e364ae9c3f6c0388a0f0b2a43bf7fae09ae"), looks := false }, kinds := [], alts := [], laidByText := true, laidKinds := [.widerDeep, .data, .widerDeep], laidTests := true, laidLooks := .later }
def FnExactRecursiveCardSaid : Prop := Claim7.holds Tryz.pinned (.plain (OpenSpec.ofChange fnExactRecursiveSpec)) fnExactRecursiveCard

/-- THE TIED CARD OF 'laws.FnExactUncalled'. -/
def fnExactUncalledCard : Claim7 := { stood := { row := fnExactUncalledRow, standIns := [], harness := (true, "02c94efbeef78bd51616f1637dd35e364ae9c3f6c0388a0f0b2a43bf7fae09ae"), looks := false }, kinds := [], alts := [], laidByText := true, laidKinds := [.widerDeep, .data, .widerDeep], laidTests := true, laidLooks := .later }
def FnExactUncalledCardSaid : Prop := Claim7.holds Tryz.pinned (.plain (OpenSpec.ofChange fnExactUncalledSpec)) fnExactUncalledCard

/-- THE SECOND FORM's CARD OF 'laws.FnExactMerge'. -/
def fnExactMergeUptoCard : Claim7 := { stood := { row := fnExactMergeUptoRow, standIns := [], harness := (true, "02c94efbeef78bd51616f1637dd35e364ae9c3f6c0388a0f0b2a43bf7fae09ae"), looks := false }, kinds := [], alts := [], laidByText := true, laidKinds := [.widerDeep, .data, .widerDeep], laidTests := true, laidLooks := .later }
def FnExactMergeUptoCardSaid : Prop := Claim7.holds Tryz.pinned (.plain (OpenSpec.upto fnExactMergeSpec)) fnExactMergeUptoCard

/-- THE SECOND FORM's CARD OF 'laws.FnExactSubst'. -/
def fnExactSubstUptoCard : Claim7 := { stood := { row := fnExactSubstUptoRow, standIns := [], harness := (true, "02c94efbeef78bd51616f1637dd35e364ae9c3f6c0388a0f0b2a43bf7fae09ae"), looks := false }, kinds := [], alts := [], laidByText := true, laidKinds := [.widerDeep, .data, .widerDeep], laidTests := true, laidLooks := .later }
def FnExactSubstUptoCardSaid : Prop := Claim7.holds Tryz.pinned (.plain (OpenSpec.upto fnExactSubstSpec)) fnExactSubstUptoCard

/-- THE SECOND FORM's CARD OF 'laws.FnExactSortFuncs'. -/
def fnExactSortFuncsUptoCard : Claim7 := { stood := { row := fnExactSortFuncsUptoRow, standIns := [], harness := (true, "02c94efbeef78bd51616f1637dd35e364ae9c3f6c0388a0f0b2a43bf7fae09ae"), looks := false }, kinds := [], alts := [], laidByText := true, laidKinds := [.widerDeep, .data, .widerDeep], laidTests := true, laidLooks := .later }
def FnExactSortFuncsUptoCardSaid : Prop := Claim7.holds Tryz.pinned (.plain (OpenSpec.upto fnExactSortFuncsSpec)) fnExactSortFuncsUptoCard

/-- THE SECOND FORM's CARD OF 'laws.FnExactCallsOf'. -/
def fnExactCallsOfUptoCard : Claim7 := { stood := { row := fnExactCallsOfUptoRow, standIns := [], harness := (true, "02c94efbeef78bd51616f1637dd35e364ae9c3f6c0388a0f0b2a43bf7fae09ae"), looks := false }, kinds := [], alts := [], laidByText := true, laidKinds := [.widerDeep, .data, .widerDeep], laidTests := true, laidLooks := .later }
def FnExactCallsOfUptoCardSaid : Prop := Claim7.holds Tryz.pinned (.plain (OpenSpec.upto fnExactCallsOfSpec)) fnExactCallsOfUptoCard

/-- THE SECOND FORM's CARD OF 'laws.FnExactRecursive'. -/
def fnExactRecursiveUptoCard : Claim7 := { stood := { row := fnExactRecursiveUptoRow, standIns := [], harness := (true, "02c94efbeef78bd51616f1637dd35e364ae9c3f6c0388a0f0b2a43bf7fae09ae"), looks := false }, kinds := [], alts := [], laidByText := true, laidKinds := [.widerDeep, .data, .widerDeep], laidTests := true, laidLooks := .later }
def FnExactRecursiveUptoCardSaid : Prop := Claim7.holds Tryz.pinned (.plain (OpenSpec.upto fnExactRecursiveSpec)) fnExactRecursiveUptoCard

/-- THE SECOND FORM's CARD OF 'laws.FnExactUncalled'. -/
def fnExactUncalledUptoCard : Claim7 := { stood := { row := fnExactUncalledUptoRow, standIns := [], harness := (true, "02c94efbeef78bd51616f1637dd35e364ae9c3f6c0388a0f0b2a43bf7fae09ae"), looks := false }, kinds := [], alts := [], laidByText := true, laidKinds := [.widerDeep, .data, .widerDeep], laidTests := true, laidLooks := .later }
def FnExactUncalledUptoCardSaid : Prop := Claim7.holds Tryz.pinned (.plain (OpenSpec.upto fnExactUncalledSpec)) fnExactUncalledUptoCard
end Rows
end Go.Proofs.YtodbelembghegaaGreatDoor
