/-
  DERIVED. GIVEN WITH THE SEED: THE CARDS: each row of YtbpldgeajbfgnaaGreatDoorRows.lean that lists a variable, with what it lists TIED to the program's text (the seventh form; the later family's looks); each row that meets fmt, with fmt's text TOLD by the authors' own Lean function (tested against real Go, not proved from fmt's source: count such statements apart). THE CARD IS WHAT COUNTS. Prove the row's statement (the work); the ties are given (YtbpldgeajbfgnaaGreatDoorTie.lean); close each card by the builder's one call (the guide's Derived/Test/ToyasCard.lean, 'card_holds'). Laid BY PROGRAM, IN A SANDBOX (cutbox-door.mjs). By AI agents, Wed Nov 11 2026. No macro, syntax, notation, axiom, sorry.
-/
import Derived.Test.YtbpldgeajbfgnaaGreatDoorRows
import GoSem.ClaimSeven
namespace Go.Proofs.YtbpldgeajbfgnaaGreatDoor
namespace Rows

/-- THE TIED CARD OF 'laws.FnExactStmtDoc'. -/
def fnExactStmtDocCard : Claim7 := { stood := { row := fnExactStmtDocRow, standIns := [], harness := (true, "280974bfa94a1e19903a9298e23344b8a371a9920944126db8c566c9f6bc8df7"), looks := false }, kinds := [], alts := [], laidByText := true, laidKinds := [.widerDeep, .data, .widerDeep], laidTests := true, laidLooks := .later }
def FnExactStmtDocCardSaid : Prop := Claim7.holds Tryz.pinned (.plain (OpenSpec.ofChange fnExactStmtDocSpec)) fnExactStmtDocCard

/-- THE TIED CARD OF 'laws.FnExactPrintExpr'. -/
def fnExactPrintExprCard : Claim7 := { stood := { row := fnExactPrintExprRow, standIns := [], harness := (true, "280974bfa94a1e19903a9298e23344b8a371a9920944126db8c566c9f6bc8df7"), looks := false }, kinds := [], alts := [], laidByText := true, laidKinds := [.widerDeep, .data, .widerDeep], laidTests := true, laidLooks := .later }
def FnExactPrintExprCardSaid : Prop := Claim7.holds Tryz.pinned (.plain (OpenSpec.ofChange fnExactPrintExprSpec)) fnExactPrintExprCard

/-- THE TIED CARD OF 'laws.FnExactProgramDoc'. -/
def fnExactProgramDocCard : Claim7 := { stood := { row := fnExactProgramDocRow, standIns := [], harness := (true, "280974bfa94a1e19903a9298e23344b8a371a9920944126db8c566c9f6bc8df7"), looks := false }, kinds := [], alts := [], laidByText := true, laidKinds := [.widerDeep, .data, .widerDeep], laidTests := true, laidLooks := .later }
def FnExactProgramDocCardSaid : Prop := Claim7.holds Tryz.pinned (.plain (OpenSpec.ofChange fnExactProgramDocSpec)) fnExactProgramDocCard

/-- THE TIED CARD OF 'laws.FnExactPrint'. -/
def fnExactPrintCard : Claim7 := { stood := { row := fnExactPrintRow, standIns := [], harness := (true, "280974bfa94a1e19903a9298e23344b8a371a9920944126db8c566c9f6bc8df7"), looks := false }, kinds := [], alts := [], laidByText := true, laidKinds := [.widerDeep, .data, .widerDeep], laidTests := true, laidLooks := .later }
def FnExactPrintCardSaid : Prop := Claim7.holds Tryz.pinned (.plain (OpenSpec.ofChange fnExactPrintSpec)) fnExactPrintCard

/-- THE TIED CARD OF 'laws.FnExactLineCount'. -/
def fnExactLineCountCard : Claim7 := { stood := { row := fnExactLineCountRow, standIns := [], harness := (true, "280974bfa94a1e19903a9298e23344b8a371a9920944126db8c566c9f6bc8df7"), looks := false }, kinds := [], alts := [], laidByText := true, laidKinds := [.data, .widerDeep, .data, .widerDeep, .pinned], laidTests := true, laidLooks := .later }
def FnExactLineCountCardSaid : Prop := Claim7.holds Tryz.pinned (.plain (OpenSpec.ofChange fnExactLineCountSpec)) fnExactLineCountCard

/-- THE TIED CARD OF 'laws.FnExactBestWidth'. -/
def fnExactBestWidthCard : Claim7 := { stood := { row := fnExactBestWidthRow, standIns := [], harness := (true, "280974bfa94a1e19903a9298e23344b8a371a9920944126db8c566c9f6bc8df7"), looks := false }, kinds := [], alts := [], laidByText := true, laidKinds := [.data, .widerDeep, .data, .widerDeep, .pinned], laidTests := true, laidLooks := .later }
def FnExactBestWidthCardSaid : Prop := Claim7.holds Tryz.pinned (.plain (OpenSpec.ofChange fnExactBestWidthSpec)) fnExactBestWidthCard

/-- THE SECOND FORM's CARD OF 'laws.FnExactStmtDoc'. -/
def fnExactStmtDocUptoCard : Claim7 := { stood := { row := fnExactStmtDocUptoRow, standIns := [], harness := (true, "280974bfa94a1e19903a9298e23344b8a371a9920944126db8c566c9f6bc8df7"), looks := false }, kinds := [], alts := [], laidByText := true, laidKinds := [.widerDeep, .data, .widerDeep], laidTests := true, laidLooks := .later }
def FnExactStmtDocUptoCardSaid : Prop := Claim7.holds Tryz.pinned (.plain (OpenSpec.upto fnExactStmtDocSpec)) fnExactStmtDocUptoCard

/-- THE SECOND FORM's CARD OF 'laws.FnExactPrintExpr'. -/
def fnExactPrintExprUptoCard : Claim7 := { stood := { row := fnExactPrintExprUptoRow, standIns := [], harness := (true, "280974bfa94a1e19903a9298e23344b8a371a9920944126db8c566c9f6bc8df7"), looks := false }, kinds := [], alts := [], laidByText := true, laidKinds := [.widerDeep, .data, .widerDeep], laidTests := true, laidLooks := .later }
def FnExactPrintExprUptoCardSaid : Prop := Claim7.holds Tryz.pinned (.plain (OpenSpec.upto fnExactPrintExprSpec)) fnExactPrintExprUptoCard

/-- THE SECOND FORM's CARD OF 'laws.FnExactProgramDoc'. -/
def fnExactProgramDocUptoCard : Claim7 := { stood := { row := fnExactProgramDocUptoRow, standIns := [], harness := (true, "280974bfa94a1e19903a9298e23344b8a371a9920944126db8c566c9f6bc8df7"), looks := false }, kinds := [], alts := [], laidByText := true, laidKinds := [.widerDeep, .data, .widerDeep], laidTests := true, laidLooks := .later }
def FnExactProgramDocUptoCardSaid : Prop := Claim7.holds Tryz.pinned (.plain (OpenSpec.upto fnExactProgramDocSpec)) fnExactProgramDocUptoCard

/-- THE SECOND FORM's CARD OF 'laws.FnExactPrint'. -/
def fnExactPrintUptoCard : Claim7 := { stood := { row := fnExactPrintUptoRow, standIns := [], harness := (true, "280974bfa94a1e19903a9298e23344b8a371a9920944126db8c566c9f6bc8df7"), looks := false }, kinds := [], alts := [], laidByText := true, laidKinds := [.widerDeep, .data, .widerDeep], laidTests := true, laidLooks := .later }
def FnExactPrintUptoCardSaid : Prop := Claim7.holds Tryz.pinned (.plain (OpenSpec.upto fnExactPrintSpec)) fnExactPrintUptoCard

/-- THE SECOND FORM's CARD OF 'laws.FnExactLineCount'. -/
def fnExactLineCountUptoCard : Claim7 := { stood := { row := fnExactLineCountUptoRow, standIns := [], harness := (true, "280974bfa94a1e19903a9298e23344b8a371a9920944126db8c566c9f6bc8df7"), looks := false }, kinds := [], alts := [], laidByText := true, laidKinds := [.data, .widerDeep, .data, .widerDeep, .pinned], laidTests := true, laidLooks := .later }
def FnExactLineCountUptoCardSaid : Prop := Claim7.holds Tryz.pinned (.plain (OpenSpec.upto fnExactLineCountSpec)) fnExactLineCountUptoCard

/-- THE SECOND FORM's CARD OF 'laws.FnExactBestWidth'. -/
def fnExactBestWidthUptoCard : Claim7 := { stood := { row := fnExactBestWidthUptoRow, standIns := [], harness := (true, "280974bfa94a1e19903a9298e23344b8a371a9920944126db8c566c9f6bc8df7"), looks := false }, kinds := [], alts := [], laidByText := true, laidKinds := [.data, .widerDeep, .data, .widerDeep, .pinned], laidTests := true, laidLooks := .later }
def FnExactBestWidthUptoCardSaid : Prop := Claim7.holds Tryz.pinned (.plain (OpenSpec.upto fnExactBestWidthSpec)) fnExactBestWidthUptoCard
end Rows
end Go.Proofs.YtbpldgeajbfgnaaGreatDoor
