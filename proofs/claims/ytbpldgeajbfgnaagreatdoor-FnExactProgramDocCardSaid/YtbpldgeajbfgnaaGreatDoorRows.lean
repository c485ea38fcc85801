/-
  NARROWER THAN 'FOR EVERY INPUT', by the rows' own cells (each row's printed sentence says how): FnExactStmtDoc: laid · FnExactPrintExpr: laid · FnExactProgramDoc: laid · FnExactPrint: laid · FnExactLineCount: laid · FnExactBestWidth: laid.
  DERIVED. THE GIVEN ROWS OF THIS SEAT. 6 by the template 'for every input the law returns true; each argument reads behind the call as it read before'; 0 by the template 'total and deterministic' (their statements: YtbpldgeajbfgnaaGreatDoorTotals.lean).
  GIVEN WITH THE SEED: the statements are not yours to turn. If you find one false, say at which input.
  Laid BY PROGRAM, IN A SANDBOX (cutbox-rows.mjs): the forced cells as the released guide's own fill.sh prints them over the translation f778c3ec570fbec1… (all of the seat's roots in one cut). By AI agents, Wed Nov 11 2026. No macro, syntax, notation, axiom, sorry.
-/
import Derived.Test.YtbpldgeajbfgnaaGreatDoorChecked
import GoSem.PinnedTables
import GoSem.Claim
import GoSem.ClaimJoined
import GoSem.ClaimMapViews
import Derived.JoinedTies
import Derived.KernelRfl
namespace Go.Proofs.YtbpldgeajbfgnaaGreatDoor
/- THE CELL 'sum', in the pinned program and in every row, IS THE sha256 OF THE DUMP (.gsa) THAT YtbpldgeajbfgnaaGreatDoorProg.lean LOADS. Nothing in Lean hashes anything: it is a label: what it is worth is what the hold of that sum in a sandbox is worth. -/
noncomputable def Tryz.pinned : Pinned := { name := "ytbpldgeajbfgnaagreatdoor", sum := "f778c3ec570fbec14a8b38c89dd4bc43c79c0c97694e85ed31507bf0006fa800", checked := Tryz.checked }
namespace Rows
def none {H : Type} : Left H := { results := [], args := [] }

/- WHAT THE LISTED PACKAGE-LEVEL VARIABLES READ AS WHEN THE CALL BEGINS. Each datum BY PROGRAM (the guide's laid-datum.mjs) off the statement by which the dump's own 'gosem.cut.vars' lays the variable. In a bare row this is a premise. The card (YtbpldgeajbfgnaaGreatDoorCards.lean) ties it to the program's text. -/
def laid_loop_example_g01543_impl_keywords {H : Type} : DataW H := .agg [.lit (.string [66, 69, 71, 73, 78]), .lit (.string [69, 78, 68]), .lit (.string [102, 117, 110, 99, 116, 105, 111, 110]), .lit (.string [105, 102]), .lit (.string [101, 108, 115, 101]), .lit (.string [119, 104, 105, 108, 101]), .lit (.string [102, 111, 114]), .lit (.string [100, 111]), .lit (.string [98, 114, 101, 97, 107]), .lit (.string [99, 111, 110, 116, 105, 110, 117, 101]), .lit (.string [110, 101, 120, 116]), .lit (.string [101, 120, 105, 116]), .lit (.string [114, 101, 116, 117, 114, 110]), .lit (.string [100, 101, 108, 101, 116, 101]), .lit (.string [105, 110]), .lit (.string [112, 114, 105, 110, 116]), .lit (.string [112, 114, 105, 110, 116, 102])]
def laid_loop_example_g01543_impl_signs {H : Type} : DataW H := .agg [.lit (.string [123]), .lit (.string [125]), .lit (.string [40]), .lit (.string [41]), .lit (.string [91]), .lit (.string [93]), .lit (.string [44]), .lit (.string [59]), .lit (.string [43, 61]), .lit (.string [45, 61]), .lit (.string [42, 61]), .lit (.string [47, 61]), .lit (.string [37, 61]), .lit (.string [94, 61]), .lit (.string [124, 124]), .lit (.string [38, 38]), .lit (.string [33, 126]), .lit (.string [61, 61]), .lit (.string [60, 61]), .lit (.string [62, 61]), .lit (.string [33, 61]), .lit (.string [43, 43]), .lit (.string [45, 45]), .lit (.string [62, 62]), .lit (.string [61]), .lit (.string [43]), .lit (.string [45]), .lit (.string [42]), .lit (.string [47]), .lit (.string [37]), .lit (.string [94]), .lit (.string [33]), .lit (.string [62]), .lit (.string [60]), .lit (.string [124]), .lit (.string [63]), .lit (.string [58]), .lit (.string [126]), .lit (.string [36])]
def laid_loop_example_g01543_impl_builtins {H : Type} : DataW H := .agg [.lit (.string [97, 116, 97, 110, 50]), .lit (.string [99, 108, 111, 115, 101]), .lit (.string [99, 111, 115]), .lit (.string [101, 120, 112]), .lit (.string [103, 115, 117, 98]), .lit (.string [105, 110, 100, 101, 120]), .lit (.string [105, 110, 116]), .lit (.string [108, 101, 110, 103, 116, 104]), .lit (.string [108, 111, 103]), .lit (.string [109, 97, 116, 99, 104]), .lit (.string [114, 97, 110, 100]), .lit (.string [115, 105, 110]), .lit (.string [115, 112, 108, 105, 116]), .lit (.string [115, 112, 114, 105, 110, 116, 102]), .lit (.string [115, 113, 114, 116]), .lit (.string [115, 114, 97, 110, 100]), .lit (.string [115, 117, 98]), .lit (.string [115, 117, 98, 115, 116, 114]), .lit (.string [115, 121, 115, 116, 101, 109]), .lit (.string [116, 111, 108, 111, 119, 101, 114]), .lit (.string [116, 111, 117, 112, 112, 101, 114])]
def laid_unicode_utf8_acceptRanges {H : Type} : DataW H := .agg [.agg [.lit (.int .u8 128), .lit (.int .u8 191)], .agg [.lit (.int .u8 160), .lit (.int .u8 191)], .agg [.lit (.int .u8 128), .lit (.int .u8 159)], .agg [.lit (.int .u8 144), .lit (.int .u8 191)], .agg [.lit (.int .u8 128), .lit (.int .u8 143)], .agg [.lit (.int .u8 0), .lit (.int .u8 0)], .agg [.lit (.int .u8 0), .lit (.int .u8 0)], .agg [.lit (.int .u8 0), .lit (.int .u8 0)], .agg [.lit (.int .u8 0), .lit (.int .u8 0)], .agg [.lit (.int .u8 0), .lit (.int .u8 0)], .agg [.lit (.int .u8 0), .lit (.int .u8 0)], .agg [.lit (.int .u8 0), .lit (.int .u8 0)], .agg [.lit (.int .u8 0), .lit (.int .u8 0)], .agg [.lit (.int .u8 0), .lit (.int .u8 0)], .agg [.lit (.int .u8 0), .lit (.int .u8 0)], .agg [.lit (.int .u8 0), .lit (.int .u8 0)]]
/-- One of Go's own tables, pinned by name: the form's constant. -/
def laid_unicode_utf8_first : DataW Unit := Go.Pinned.utf8First

/-- 'laws.FnExactStmtDoc': WHATEVER THE INPUT: true; the input reads as it did. -/
def fnExactStmtDocSpec : ChangeSpec := { name := "fnExactStmtDoc", vars := ["loop.example/g01543/impl.keywords", "loop.example/g01543/impl.builtins", "loop.example/g01543/impl.signs"], fn := fun _ => fun
  | [d, g1, g2, g3] => { results := [.lit (.bool true)], args := [d], vars := [g1, g2, g3] }
  | _ => none }
def fnExactStmtDocRow : OpenClaim := { program := "ytbpldgeajbfgnaagreatdoor", sum := "f778c3ec570fbec14a8b38c89dd4bc43c79c0c97694e85ed31507bf0006fa800", func := "loop.example/g01543/laws.FnExactStmtDoc", spec := "fnExactStmtDoc", inPlace := ["internal/bytealg.IndexByteString", "internal/bytealg.IndexString"], unfollowed := true, recurses := true, named := ["loop.example/g01543/impl.keywords", "loop.example/g01543/impl.builtins", "internal/bytealg.MaxLen", "loop.example/g01543/impl.signs"], apart := false, laid := [("loop.example/g01543/impl.keywords", laid_loop_example_g01543_impl_keywords), ("loop.example/g01543/impl.signs", laid_loop_example_g01543_impl_signs), ("loop.example/g01543/impl.builtins", laid_loop_example_g01543_impl_builtins)] }
def FnExactStmtDocSaid : Prop := fnExactStmtDocRow.holds Tryz.pinned (OpenSpec.ofChange fnExactStmtDocSpec)

/-- ITS FALSE NEIGHBOUR: 'it returns false'. Refute it at one input. -/
def fnExactStmtDocWrong : ChangeSpec := { name := "fnExactStmtDoc", vars := ["loop.example/g01543/impl.keywords", "loop.example/g01543/impl.builtins", "loop.example/g01543/impl.signs"], fn := fun _ => fun
  | [d, g1, g2, g3] => { results := [.lit (.bool false)], args := [d], vars := [g1, g2, g3] }
  | _ => none }
def FnExactStmtDocWrongFalsely : Prop := fnExactStmtDocRow.holds Tryz.pinned (OpenSpec.ofChange fnExactStmtDocWrong)

/-- 'laws.FnExactPrintExpr': WHATEVER THE INPUT: true; the input reads as it did. -/
def fnExactPrintExprSpec : ChangeSpec := { name := "fnExactPrintExpr", vars := ["loop.example/g01543/impl.keywords", "loop.example/g01543/impl.builtins", "loop.example/g01543/impl.signs"], fn := fun _ => fun
  | [d1, d2, g1, g2, g3] => { results := [.lit (.bool true)], args := [d1, d2], vars := [g1, g2, g3] }
  | _ => none }
def fnExactPrintExprRow : OpenClaim := { program := "ytbpldgeajbfgnaagreatdoor", sum := "f778c3ec570fbec14a8b38c89dd4bc43c79c0c97694e85ed31507bf0006fa800", func := "loop.example/g01543/laws.FnExactPrintExpr", spec := "fnExactPrintExpr", inPlace := ["internal/bytealg.IndexByteString", "internal/bytealg.IndexString", "internal/abi.NoEscape", "internal/bytealg.MakeNoZero"], unfollowed := true, recurses := true, named := ["loop.example/g01543/impl.keywords", "loop.example/g01543/impl.builtins", "internal/bytealg.MaxLen", "loop.example/g01543/impl.signs"], apart := false, laid := [("loop.example/g01543/impl.keywords", laid_loop_example_g01543_impl_keywords), ("loop.example/g01543/impl.signs", laid_loop_example_g01543_impl_signs), ("loop.example/g01543/impl.builtins", laid_loop_example_g01543_impl_builtins)] }
def FnExactPrintExprSaid : Prop := fnExactPrintExprRow.holds Tryz.pinned (OpenSpec.ofChange fnExactPrintExprSpec)

/-- ITS FALSE NEIGHBOUR: 'it returns false'. Refute it at one input. -/
def fnExactPrintExprWrong : ChangeSpec := { name := "fnExactPrintExpr", vars := ["loop.example/g01543/impl.keywords", "loop.example/g01543/impl.builtins", "loop.example/g01543/impl.signs"], fn := fun _ => fun
  | [d1, d2, g1, g2, g3] => { results := [.lit (.bool false)], args := [d1, d2], vars := [g1, g2, g3] }
  | _ => none }
def FnExactPrintExprWrongFalsely : Prop := fnExactPrintExprRow.holds Tryz.pinned (OpenSpec.ofChange fnExactPrintExprWrong)

/-- 'laws.FnExactProgramDoc': WHATEVER THE INPUT: true; the input reads as it did. -/
def fnExactProgramDocSpec : ChangeSpec := { name := "fnExactProgramDoc", vars := ["loop.example/g01543/impl.keywords", "loop.example/g01543/impl.builtins", "loop.example/g01543/impl.signs"], fn := fun _ => fun
  | [d, g1, g2, g3] => { results := [.lit (.bool true)], args := [d], vars := [g1, g2, g3] }
  | _ => none }
def fnExactProgramDocRow : OpenClaim := { program := "ytbpldgeajbfgnaagreatdoor", sum := "f778c3ec570fbec14a8b38c89dd4bc43c79c0c97694e85ed31507bf0006fa800", func := "loop.example/g01543/laws.FnExactProgramDoc", spec := "fnExactProgramDoc", inPlace := ["internal/bytealg.IndexByteString", "internal/bytealg.IndexString", "internal/abi.NoEscape", "internal/bytealg.MakeNoZero"], unfollowed := true, recurses := true, named := ["loop.example/g01543/impl.keywords", "loop.example/g01543/impl.builtins", "internal/bytealg.MaxLen", "loop.example/g01543/impl.signs"], apart := false, laid := [("loop.example/g01543/impl.keywords", laid_loop_example_g01543_impl_keywords), ("loop.example/g01543/impl.signs", laid_loop_example_g01543_impl_signs), ("loop.example/g01543/impl.builtins", laid_loop_example_g01543_impl_builtins)] }
def FnExactProgramDocSaid : Prop := fnExactProgramDocRow.holds Tryz.pinned (OpenSpec.ofChange fnExactProgramDocSpec)

/-- ITS FALSE NEIGHBOUR: 'it returns false'. Refute it at one input. -/
def fnExactProgramDocWrong : ChangeSpec := { name := "fnExactProgramDoc", vars := ["loop.example/g01543/impl.keywords", "loop.example/g01543/impl.builtins", "loop.example/g01543/impl.signs"], fn := fun _ => fun
  | [d, g1, g2, g3] => { results := [.lit (.bool false)], args := [d], vars := [g1, g2, g3] }
  | _ => none }
def FnExactProgramDocWrongFalsely : Prop := fnExactProgramDocRow.holds Tryz.pinned (OpenSpec.ofChange fnExactProgramDocWrong)

/-- 'laws.FnExactPrint': WHATEVER THE INPUT: true; the input reads as it did. -/
def fnExactPrintSpec : ChangeSpec := { name := "fnExactPrint", vars := ["loop.example/g01543/impl.keywords", "loop.example/g01543/impl.builtins", "loop.example/g01543/impl.signs"], fn := fun _ => fun
  | [d1, d2, g1, g2, g3] => { results := [.lit (.bool true)], args := [d1, d2], vars := [g1, g2, g3] }
  | _ => none }
def fnExactPrintRow : OpenClaim := { program := "ytbpldgeajbfgnaagreatdoor", sum := "f778c3ec570fbec14a8b38c89dd4bc43c79c0c97694e85ed31507bf0006fa800", func := "loop.example/g01543/laws.FnExactPrint", spec := "fnExactPrint", inPlace := ["internal/bytealg.IndexByteString", "internal/bytealg.IndexString", "internal/abi.NoEscape", "internal/bytealg.MakeNoZero"], unfollowed := true, recurses := true, named := ["loop.example/g01543/impl.keywords", "loop.example/g01543/impl.builtins", "internal/bytealg.MaxLen", "loop.example/g01543/impl.signs"], apart := false, laid := [("loop.example/g01543/impl.keywords", laid_loop_example_g01543_impl_keywords), ("loop.example/g01543/impl.signs", laid_loop_example_g01543_impl_signs), ("loop.example/g01543/impl.builtins", laid_loop_example_g01543_impl_builtins)] }
def FnExactPrintSaid : Prop := fnExactPrintRow.holds Tryz.pinned (OpenSpec.ofChange fnExactPrintSpec)

/-- ITS FALSE NEIGHBOUR: 'it returns false'. Refute it at one input. -/
def fnExactPrintWrong : ChangeSpec := { name := "fnExactPrint", vars := ["loop.example/g01543/impl.keywords", "loop.example/g01543/impl.builtins", "loop.example/g01543/impl.signs"], fn := fun _ => fun
  | [d1, d2, g1, g2, g3] => { results := [.lit (.bool false)], args := [d1, d2], vars := [g1, g2, g3] }
  | _ => none }
def FnExactPrintWrongFalsely : Prop := fnExactPrintRow.holds Tryz.pinned (OpenSpec.ofChange fnExactPrintWrong)

/-- 'laws.FnExactLineCount': WHATEVER THE INPUT: true; the input reads as it did. -/
def fnExactLineCountSpec : ChangeSpec := { name := "fnExactLineCount", vars := ["loop.example/g01543/impl.keywords", "loop.example/g01543/impl.builtins", "loop.example/g01543/impl.signs"], fn := fun _ => fun
  | [d1, d2, g1, g2, g3] => { results := [.lit (.bool true)], args := [d1, d2], vars := [g1, g2, g3] }
  | _ => none }
def fnExactLineCountRow : OpenClaim := { program := "ytbpldgeajbfgnaagreatdoor", sum := "f778c3ec570fbec14a8b38c89dd4bc43c79c0c97694e85ed31507bf0006fa800", func := "loop.example/g01543/laws.FnExactLineCount", spec := "fnExactLineCount", inPlace := ["internal/bytealg.IndexByteString", "internal/bytealg.IndexString", "internal/abi.NoEscape", "internal/bytealg.MakeNoZero", "internal/bytealg.CountString"], unfollowed := true, recurses := true, named := ["loop.example/g01543/impl.keywords", "loop.example/g01543/impl.builtins", "internal/bytealg.MaxLen", "loop.example/g01543/impl.signs", "unicode/utf8.first", "unicode/utf8.acceptRanges"], apart := false, laid := [("unicode/utf8.acceptRanges", laid_unicode_utf8_acceptRanges), ("loop.example/g01543/impl.keywords", laid_loop_example_g01543_impl_keywords), ("loop.example/g01543/impl.signs", laid_loop_example_g01543_impl_signs), ("loop.example/g01543/impl.builtins", laid_loop_example_g01543_impl_builtins), ("unicode/utf8.first", laid_unicode_utf8_first)] }
def FnExactLineCountSaid : Prop := fnExactLineCountRow.holds Tryz.pinned (OpenSpec.ofChange fnExactLineCountSpec)

/-- ITS FALSE NEIGHBOUR: 'it returns false'. Refute it at one input. -/
def fnExactLineCountWrong : ChangeSpec := { name := "fnExactLineCount", vars := ["loop.example/g01543/impl.keywords", "loop.example/g01543/impl.builtins", "loop.example/g01543/impl.signs"], fn := fun _ => fun
  | [d1, d2, g1, g2, g3] => { results := [.lit (.bool false)], args := [d1, d2], vars := [g1, g2, g3] }
  | _ => none }
def FnExactLineCountWrongFalsely : Prop := fnExactLineCountRow.holds Tryz.pinned (OpenSpec.ofChange fnExactLineCountWrong)

/-- 'laws.FnExactBestWidth': WHATEVER THE INPUT: true; the input reads as it did. -/
def fnExactBestWidthSpec : ChangeSpec := { name := "fnExactBestWidth", vars := ["loop.example/g01543/impl.keywords", "loop.example/g01543/impl.builtins", "loop.example/g01543/impl.signs"], fn := fun _ => fun
  | [d1, d2, g1, g2, g3] => { results := [.lit (.bool true)], args := [d1, d2], vars := [g1, g2, g3] }
  | _ => none }
def fnExactBestWidthRow : OpenClaim := { program := "ytbpldgeajbfgnaagreatdoor", sum := "f778c3ec570fbec14a8b38c89dd4bc43c79c0c97694e85ed31507bf0006fa800", func := "loop.example/g01543/laws.FnExactBestWidth", spec := "fnExactBestWidth", inPlace := ["internal/bytealg.IndexByteString", "internal/bytealg.IndexString", "internal/abi.NoEscape", "internal/bytealg.MakeNoZero", "internal/bytealg.CountString"], unfollowed := true, recurses := true, named := ["loop.example/g01543/impl.keywords", "loop.example/g01543/impl.builtins", "internal/bytealg.MaxLen", "loop.example/g01543/impl.signs", "unicode/utf8.first", "unicode/utf8.acceptRanges"], apart := false, laid := [("unicode/utf8.acceptRanges", laid_unicode_utf8_acceptRanges), ("loop.example/g01543/impl.keywords", laid_loop_example_g01543_impl_keywords), ("loop.example/g01543/impl.signs", laid_loop_example_g01543_impl_signs), ("loop.example/g01543/impl.builtins", laid_loop_example_g01543_impl_builtins), ("unicode/utf8.first", laid_unicode_utf8_first)] }
def FnExactBestWidthSaid : Prop := fnExactBestWidthRow.holds Tryz.pinned (OpenSpec.ofChange fnExactBestWidthSpec)

/-- ITS FALSE NEIGHBOUR: 'it returns false'. Refute it at one input. -/
def fnExactBestWidthWrong : ChangeSpec := { name := "fnExactBestWidth", vars := ["loop.example/g01543/impl.keywords", "loop.example/g01543/impl.builtins", "loop.example/g01543/impl.signs"], fn := fun _ => fun
  | [d1, d2, g1, g2, g3] => { results := [.lit (.bool false)], args := [d1, d2], vars := [g1, g2, g3] }
  | _ => none }
def FnExactBestWidthWrongFalsely : Prop := fnExactBestWidthRow.holds Tryz.pinned (OpenSpec.ofChange fnExactBestWidthWrong)

/- THE SECOND FORM. 'bulk': how many values and letters a reading holds, each counted each time it is reached (what is shared counts as often as it is met; a slice's spare places count too). A statement '..UptoSaid' is the law's where the arguments, and the package variables that the reading takes, are together of bulk at most 1048576: NARROWER than '..Said'. Prove '..Said' where nothing that the law and all that it calls make is longer than what came in: it says more and counts as full. Else prove '..UptoSaid'. A law counts once. -/
mutual
def uptoBulk {H : Type} : DataW H → Nat
  | .lit (.string bytes) => bytes.length + 1
  | .lit _ => 1
  | .nil => 1
  | .ptr d => uptoBulk d + 1
  | .slice elems spare => uptoBulkAll elems + uptoBulkAll spare + 1
  | .agg parts => uptoBulkAll parts + 1
  | .iface _ d => uptoBulk d + 1
  | .map entries => uptoBulkEntries entries + 1
  | .held _ => 1
def uptoBulkAll {H : Type} : List (DataW H) → Nat
  | [] => 0
  | d :: r => uptoBulk d + uptoBulkAll r
def uptoBulkEntries {H : Type} : List (Lit × DataW H) → Nat
  | [] => 0
  | x :: r => uptoBulkEntry x + uptoBulkEntries r
def uptoBulkEntry {H : Type} : Lit × DataW H → Nat
  | (.string bytes, d) => bytes.length + uptoBulk d + 1
  | (_, d) => uptoBulk d + 1
 end
def uptoSmall : (H : Type) → List (DataW H) → Bool := fun _ ds => decide (uptoBulkAll ds ≤ 1048576)
def OpenSpec.upto (s : _root_.Go.ChangeSpec) : _root_.Go.OpenSpec := { _root_.Go.OpenSpec.ofChange s with cond := some uptoSmall }

/-- 'laws.FnExactStmtDoc', WHERE WHAT IT READS IS OF BULK AT MOST 1048576: true; the input reads as it did. -/
def fnExactStmtDocUptoRow : OpenClaim := { program := "ytbpldgeajbfgnaagreatdoor", sum := "f778c3ec570fbec14a8b38c89dd4bc43c79c0c97694e85ed31507bf0006fa800", func := "loop.example/g01543/laws.FnExactStmtDoc", spec := "fnExactStmtDoc", inPlace := ["internal/bytealg.IndexByteString", "internal/bytealg.IndexString"], unfollowed := true, recurses := true, named := ["loop.example/g01543/impl.keywords", "loop.example/g01543/impl.builtins", "internal/bytealg.MaxLen", "loop.example/g01543/impl.signs"], apart := false, laid := [("loop.example/g01543/impl.keywords", laid_loop_example_g01543_impl_keywords), ("loop.example/g01543/impl.signs", laid_loop_example_g01543_impl_signs), ("loop.example/g01543/impl.builtins", laid_loop_example_g01543_impl_builtins)], narrowed := true }
def FnExactStmtDocUptoSaid : Prop := fnExactStmtDocUptoRow.holds Tryz.pinned (OpenSpec.upto fnExactStmtDocSpec)

/-- 'laws.FnExactPrintExpr', WHERE WHAT IT READS IS OF BULK AT MOST 1048576: true; the input reads as it did. -/
def fnExactPrintExprUptoRow : OpenClaim := { program := "ytbpldgeajbfgnaagreatdoor", sum := "f778c3ec570fbec14a8b38c89dd4bc43c79c0c97694e85ed31507bf0006fa800", func := "loop.example/g01543/laws.FnExactPrintExpr", spec := "fnExactPrintExpr", inPlace := ["internal/bytealg.IndexByteString", "internal/bytealg.IndexString", "internal/abi.NoEscape", "internal/bytealg.MakeNoZero"], unfollowed := true, recurses := true, named := ["loop.example/g01543/impl.keywords", "loop.example/g01543/impl.builtins", "internal/bytealg.MaxLen", "loop.example/g01543/impl.signs"], apart := false, laid := [("loop.example/g01543/impl.keywords", laid_loop_example_g01543_impl_keywords), ("loop.example/g01543/impl.signs", laid_loop_example_g01543_impl_signs), ("loop.example/g01543/impl.builtins", laid_loop_example_g01543_impl_builtins)], narrowed := true }
def FnExactPrintExprUptoSaid : Prop := fnExactPrintExprUptoRow.holds Tryz.pinned (OpenSpec.upto fnExactPrintExprSpec)

/-- 'laws.FnExactProgramDoc', WHERE WHAT IT READS IS OF BULK AT MOST 1048576: true; the input reads as it did. -/
def fnExactProgramDocUptoRow : OpenClaim := { program := "ytbpldgeajbfgnaagreatdoor", sum := "f778c3ec570fbec14a8b38c89dd4bc43c79c0c97694e85ed31507bf0006fa800", func := "loop.example/g01543/laws.FnExactProgramDoc", spec := "fnExactProgramDoc", inPlace := ["internal/bytealg.IndexByteString", "internal/bytealg.IndexString", "internal/abi.NoEscape", "internal/bytealg.MakeNoZero"], unfollowed := true, recurses := true, named := ["loop.example/g01543/impl.keywords", "loop.example/g01543/impl.builtins", "internal/bytealg.MaxLen", "loop.example/g01543/impl.signs"], apart := false, laid := [("loop.example/g01543/impl.keywords", laid_loop_example_g01543_impl_keywords), ("loop.example/g01543/impl.signs", laid_loop_example_g01543_impl_signs), ("loop.example/g01543/impl.builtins", laid_loop_example_g01543_impl_builtins)], narrowed := true }
def FnExactProgramDocUptoSaid : Prop := fnExactProgramDocUptoRow.holds Tryz.pinned (OpenSpec.upto fnExactProgramDocSpec)

/-- 'laws.FnExactPrint', WHERE WHAT IT READS IS OF BULK AT MOST 1048576: true; the input reads as it did. -/
def fnExactPrintUptoRow : OpenClaim := { program := "ytbpldgeajbfgnaagreatdoor", sum := "f778c3ec570fbec14a8b38c89dd4bc43c79c0c97694e85ed31507bf0006fa800", func := "loop.example/g01543/laws.FnExactPrint", spec := "fnExactPrint", inPlace := ["internal/bytealg.IndexByteString", "internal/bytealg.IndexString", "internal/abi.NoEscape", "internal/bytealg.MakeNoZero"], unfollowed := true, recurses := true, named := ["loop.example/g01543/impl.keywords", "loop.example/g01543/impl.builtins", "internal/bytealg.MaxLen", "loop.example/g01543/impl.signs"], apart := false, laid := [("loop.example/g01543/impl.keywords", laid_loop_example_g01543_impl_keywords), ("loop.example/g01543/impl.signs", laid_loop_example_g01543_impl_signs), ("loop.example/g01543/impl.builtins", laid_loop_example_g01543_impl_builtins)], narrowed := true }
def FnExactPrintUptoSaid : Prop := fnExactPrintUptoRow.holds Tryz.pinned (OpenSpec.upto fnExactPrintSpec)

/-- 'laws.FnExactLineCount', WHERE WHAT IT READS IS OF BULK AT MOST 1048576: true; the input reads as it did. -/
def fnExactLineCountUptoRow : OpenClaim := { program := "ytbpldgeajbfgnaagreatdoor", sum := "f778c3ec570fbec14a8b38c89dd4bc43c79c0c97694e85ed31507bf0006fa800", func := "loop.example/g01543/laws.FnExactLineCount", spec := "fnExactLineCount", inPlace := ["internal/bytealg.IndexByteString", "internal/bytealg.IndexString", "internal/abi.NoEscape", "internal/bytealg.MakeNoZero", "internal/bytealg.CountString"], unfollowed := true, recurses := true, named := ["loop.example/g01543/impl.keywords", "loop.example/g01543/impl.builtins", "internal/bytealg.MaxLen", "loop.example/g01543/impl.signs", "unicode/utf8.first", "unicode/utf8.acceptRanges"], apart := false, laid := [("unicode/utf8.acceptRanges", laid_unicode_utf8_acceptRanges), ("loop.example/g01543/impl.keywords", laid_loop_example_g01543_impl_keywords), ("loop.example/g01543/impl.signs", laid_loop_example_g01543_impl_signs), ("loop.example/g01543/impl.builtins", laid_loop_example_g01543_impl_builtins), ("unicode/utf8.first", laid_unicode_utf8_first)], narrowed := true }
def FnExactLineCountUptoSaid : Prop := fnExactLineCountUptoRow.holds Tryz.pinned (OpenSpec.upto fnExactLineCountSpec)

/-- 'laws.FnExactBestWidth', WHERE WHAT IT READS IS OF BULK AT MOST 1048576: true; the input reads as it did. -/
def fnExactBestWidthUptoRow : OpenClaim := { program := "ytbpldgeajbfgnaagreatdoor", sum := "f778c3ec570fbec14a8b38c89dd4bc43c79c0c97694e85ed31507bf0006fa800", func := "loop.example/g01543/laws.FnExactBestWidth", spec := "fnExactBestWidth", inPlace := ["internal/bytealg.IndexByteString", "internal/bytealg.IndexString", "internal/abi.NoEscape", "internal/bytealg.MakeNoZero", "internal/bytealg.CountString"], unfollowed := true, recurses := true, named := ["loop.example/g01543/impl.keywords", "loop.example/g01543/impl.builtins", "internal/bytealg.MaxLen", "loop.example/g01543/impl.signs", "unicode/utf8.first", "unicode/utf8.acceptRanges"], apart := false, laid := [("unicode/utf8.acceptRanges", laid_unicode_utf8_acceptRanges), ("loop.example/g01543/impl.keywords", laid_loop_example_g01543_impl_keywords), ("loop.example/g01543/impl.signs", laid_loop_example_g01543_impl_signs), ("loop.example/g01543/impl.builtins", laid_loop_example_g01543_impl_builtins), ("unicode/utf8.first", laid_unicode_utf8_first)], narrowed := true }
def FnExactBestWidthUptoSaid : Prop := fnExactBestWidthUptoRow.holds Tryz.pinned (OpenSpec.upto fnExactBestWidthSpec)

end Rows
end Go.Proofs.YtbpldgeajbfgnaaGreatDoor
