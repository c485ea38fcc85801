/-
  NARROWER THAN 'FOR EVERY INPUT', by the rows' own cells (each row's printed sentence says how): FnExactMerge: laid · FnExactSubst: laid · FnExactSortFuncs: laid · FnExactCallsOf: laid · FnExactRecursive: laid · FnExactUncalled: laid.
  DERIVED. THE GIVEN ROWS OF THIS SEAT. 6 by the template 'for every input the law returns true; each argument reads behind the call as it read before'; 0 by the template 'total and deterministic' (their statements: YtodbelembghegaaGreatDoorTotals.lean).
  GIVEN WITH THE SEED: the statements are not yours to turn. If you find one false, say at which input.
  Laid BY PROGRAM, IN A SANDBOX (cutbox-rows.mjs): the forced cells as the released guide's own fill.sh prints them over the translation 3bec0b093c2eca8e… (all of the seat's roots in one cut). By AI agents, Wed Nov 11 2026. No macro, syntax, notation, axiom, sorry.
-/
import Derived.Test.YtodbelembghegaaGreatDoorChecked
import GoSem.Claim
import GoSem.ClaimJoined
import GoSem.ClaimMapViews
import Derived.JoinedTies
import Derived.KernelRfl
namespace Go.Proofs.YtodbelembghegaaGreatDoor
/- THE CELL 'sum', in the pinned program and in every row, IS THE sha256 OF THE DUMP (.gsa) THAT YtodbelembghegaaGreatDoorProg.lean LOADS. Nothing in Lean hashes anything: it is a label: what it is worth is what the hold of that sum in a sandbox is worth. -/
noncomputable def Tryz.pinned : Pinned := { name := "ytodbelembghegaagreatdoor", sum := "3bec0b093c2eca8e45865b700873127e961de0eb514e043e56044ebef8597b1c", checked := Tryz.checked }
namespace Rows
def none {H : Type} : Left H := { results := [], args := [] }

/- WHAT THE LISTED PACKAGE-LEVEL VARIABLES READ AS WHEN THE CALL BEGINS. Each datum BY PROGRAM (the guide's laid-datum.mjs) off the statement by which the dump's own 'gosem.cut.vars' lays the variable. In a bare row this is a premise. The card (YtodbelembghegaaGreatDoorCards.lean) ties it to the program's text. -/
def laid_loop_example_g01543_impl_keywords {H : Type} : DataW H := .agg [.lit (.string [66, 69, 71, 73, 78]), .lit (.string [69, 78, 68]), .lit (.string [102, 117, 110, 99, 116, 105, 111, 110]), .lit (.string [105, 102]), .lit (.string [101, 108, 115, 101]), .lit (.string [119, 104, 105, 108, 101]), .lit (.string [102, 111, 114]), .lit (.string [100, 111]), .lit (.string [98, 114, 101, 97, 107]), .lit (.string [99, 111, 110, 116, 105, 110, 117, 101]), .lit (.string [110, 101, 120, 116]), .lit (.string [101, 120, 105, 116]), .lit (.string [114, 101, 116, 117, 114, 110]), .lit (.string [100, 101, 108, 101, 116, 101]), .lit (.string [105, 110]), .lit (.string [112, 114, 105, 110, 116]), .lit (.string [112, 114, 105, 110, 116, 102])]
def laid_loop_example_g01543_impl_signs {H : Type} : DataW H := .agg [.lit (.string [123]), .lit (.string [125]), .lit (.string [40]), .lit (.string [41]), .lit (.string [91]), .lit (.string [93]), .lit (.string [44]), .lit (.string [59]), .lit (.string [43, 61]), .lit (.string [45, 61]), .lit (.string [42, 61]), .lit (.string [47, 61]), .lit (.string [37, 61]), .lit (.string [94, 61]), .lit (.string [124, 124]), .lit (.string [38, 38]), .lit (.string [33, 126]), .lit (.string [61, 61]), .lit (.string [60, 61]), .lit (.string [62, 61]), .lit (.string [33, 61]), .lit (.string [43, 43]), .lit (.string [45, 45]), .lit (.string [62, 62]), .lit (.string [61]), .lit (.string [43]), .lit (.string [45]), .lit (.string [42]), .lit (.string [47]), .lit (.string [37]), .lit (.string [94]), .lit (.string [33]), .lit (.string [62]), .lit (.string [60]), .lit (.string [124]), .lit (.string [63]), .lit (.string [58]), .lit (.string [126]), .lit (.string [36])]
def laid_loop_example_g01543_impl_builtins {H : Type} : DataW H := .agg [.lit (.string [97, 116, 97, 110, 50]), .lit (.string [99, 108, 111, 115, 101]), .lit (.string [99, 111, 115]), .lit (.string [101, 120, 112]), .lit (.string [103, 115, 117, 98]), .lit (.string [105, 110, 100, 101, 120]), .lit (.string [105, 110, 116]), .lit (.string [108, 101, 110, 103, 116, 104]), .lit (.string [108, 111, 103]), .lit (.string [109, 97, 116, 99, 104]), .lit (.string [114, 97, 110, 100]), .lit (.string [115, 105, 110]), .lit (.string [115, 112, 108, 105, 116]), .lit (.string [115, 112, 114, 105, 110, 116, 102]), .lit (.string [115, 113, 114, 116]), .lit (.string [115, 114, 97, 110, 100]), .lit (.string [115, 117, 98]), .lit (.string [115, 117, 98, 115, 116, 114]), .lit (.string [115, 121, 115, 116, 101, 109]), .lit (.string [116, 111, 108, 111, 119, 101, 114]), .lit (.string [116, 111, 117, 112, 112, 101, 114])]

/-- 'laws.FnExactMerge': WHATEVER THE INPUT: true; the input reads as it did. -/
def fnExactMergeSpec : ChangeSpec := { name := "fnExactMerge", vars := ["loop.example/g01543/impl.keywords", "loop.example/g01543/impl.builtins", "loop.example/g01543/impl.signs"], fn := fun _ => fun
  | [d1, d2, g1, g2, g3] => { results := [.lit (.bool true)], args := [d1, d2], vars := [g1, g2, g3] }
  | _ => none }
def fnExactMergeRow : OpenClaim := { program := "ytodbelembghegaagreatdoor", sum := "3bec0b093c2eca8e45865b700873127e961de0eb514e043e56044ebef8597b1c", func := "loop.example/g01543/laws.FnExactMerge", spec := "fnExactMerge", inPlace := ["internal/bytealg.IndexByteString", "internal/bytealg.IndexString"], unfollowed := true, recurses := true, named := ["loop.example/g01543/impl.keywords", "loop.example/g01543/impl.builtins", "internal/bytealg.MaxLen", "loop.example/g01543/impl.signs"], apart := false, laid := [("loop.example/g01543/impl.keywords", laid_loop_example_g01543_impl_keywords), ("loop.example/g01543/impl.signs", laid_loop_example_g01543_impl_signs), ("loop.example/g01543/impl.builtins", laid_loop_example_g01543_impl_builtins)] }
def FnExactMergeSaid : Prop := fnExactMergeRow.holds Tryz.pinned (OpenSpec.ofChange fnExactMergeSpec)

/-- ITS FALSE NEIGHBOUR: 'it returns false'. Refute it at one input. -/
def fnExactMergeWrong : ChangeSpec := { name := "fnExactMerge", vars := ["loop.example/g01543/impl.keywords", "loop.example/g01543/impl.builtins", "loop.example/g01543/impl.signs"], fn := fun _ => fun
  | [d1, d2, g1, g2, g3] => { results := [.lit (.bool false)], args := [d1, d2], vars := [g1, g2, g3] }
  | _ => none }
def FnExactMergeWrongFalsely : Prop := fnExactMergeRow.holds Tryz.pinned (OpenSpec.ofChange fnExactMergeWrong)

/-- 'laws.FnExactSubst': WHATEVER THE INPUT: true; the input reads as it did. -/
def fnExactSubstSpec : ChangeSpec := { name := "fnExactSubst", vars := ["loop.example/g01543/impl.keywords", "loop.example/g01543/impl.builtins", "loop.example/g01543/impl.signs"], fn := fun _ => fun
  | [d1, d2, d3, g1, g2, g3] => { results := [.lit (.bool true)], args := [d1, d2, d3], vars := [g1, g2, g3] }
  | _ => none }
def fnExactSubstRow : OpenClaim := { program := "ytodbelembghegaagreatdoor", sum := "3bec0b093c2eca8e45865b700873127e961de0eb514e043e56044ebef8597b1c", func := "loop.example/g01543/laws.FnExactSubst", spec := "fnExactSubst", inPlace := ["internal/bytealg.IndexByteString", "internal/bytealg.IndexString"], unfollowed := true, recurses := true, named := ["loop.example/g01543/impl.keywords", "loop.example/g01543/impl.builtins", "internal/bytealg.MaxLen", "loop.example/g01543/impl.signs"], apart := false, laid := [("loop.example/g01543/impl.keywords", laid_loop_example_g01543_impl_keywords), ("loop.example/g01543/impl.signs", laid_loop_example_g01543_impl_signs), ("loop.example/g01543/impl.builtins", laid_loop_example_g01543_impl_builtins)] }
def FnExactSubstSaid : Prop := fnExactSubstRow.holds Tryz.pinned (OpenSpec.ofChange fnExactSubstSpec)

/-- ITS FALSE NEIGHBOUR: 'it returns false'. Refute it at one input. -/
def fnExactSubstWrong : ChangeSpec := { name := "fnExactSubst", vars := ["loop.example/g01543/impl.keywords", "loop.example/g01543/impl.builtins", "loop.example/g01543/impl.signs"], fn := fun _ => fun
  | [d1, d2, d3, g1, g2, g3] => { results := [.lit (.bool false)], args := [d1, d2, d3], vars := [g1, g2, g3] }
  | _ => none }
def FnExactSubstWrongFalsely : Prop := fnExactSubstRow.holds Tryz.pinned (OpenSpec.ofChange fnExactSubstWrong)

/-- 'laws.FnExactSortFuncs': WHATEVER THE INPUT: true; the input reads as it did. -/
def fnExactSortFuncsSpec : ChangeSpec := { name := "fnExactSortFuncs", vars := ["loop.example/g01543/impl.keywords", "loop.example/g01543/impl.builtins", "loop.example/g01543/impl.signs"], fn := fun _ => fun
  | [d, g1, g2, g3] => { results := [.lit (.bool true)], args := [d], vars := [g1, g2, g3] }
  | _ => none }
def fnExactSortFuncsRow : OpenClaim := { program := "ytodbelembghegaagreatdoor", sum := "3bec0b093c2eca8e45865b700873127e961de0eb514e043e56044ebef8597b1c", func := "loop.example/g01543/laws.FnExactSortFuncs", spec := "fnExactSortFuncs", inPlace := ["internal/bytealg.IndexByteString", "internal/bytealg.IndexString"], unfollowed := true, recurses := true, named := ["loop.example/g01543/impl.keywords", "loop.example/g01543/impl.builtins", "internal/bytealg.MaxLen", "loop.example/g01543/impl.signs"], apart := false, laid := [("loop.example/g01543/impl.keywords", laid_loop_example_g01543_impl_keywords), ("loop.example/g01543/impl.signs", laid_loop_example_g01543_impl_signs), ("loop.example/g01543/impl.builtins", laid_loop_example_g01543_impl_builtins)] }
def FnExactSortFuncsSaid : Prop := fnExactSortFuncsRow.holds Tryz.pinned (OpenSpec.ofChange fnExactSortFuncsSpec)

/-- ITS FALSE NEIGHBOUR: 'it returns false'. Refute it at one input. -/
def fnExactSortFuncsWrong : ChangeSpec := { name := "fnExactSortFuncs", vars := ["loop.example/g01543/impl.keywords", "loop.example/g01543/impl.builtins", "loop.example/g01543/impl.signs"], fn := fun _ => fun
  | [d, g1, g2, g3] => { results := [.lit (.bool false)], args := [d], vars := [g1, g2, g3] }
  | _ => none }
def FnExactSortFuncsWrongFalsely : Prop := fnExactSortFuncsRow.holds Tryz.pinned (OpenSpec.ofChange fnExactSortFuncsWrong)

/-- 'laws.FnExactCallsOf': WHATEVER THE INPUT: true; the input reads as it did. -/
def fnExactCallsOfSpec : ChangeSpec := { name := "fnExactCallsOf", vars := ["loop.example/g01543/impl.keywords", "loop.example/g01543/impl.builtins", "loop.example/g01543/impl.signs"], fn := fun _ => fun
  | [d, g1, g2, g3] => { results := [.lit (.bool true)], args := [d], vars := [g1, g2, g3] }
  | _ => none }
def fnExactCallsOfRow : OpenClaim := { program := "ytodbelembghegaagreatdoor", sum := "3bec0b093c2eca8e45865b700873127e961de0eb514e043e56044ebef8597b1c", func := "loop.example/g01543/laws.FnExactCallsOf", spec := "fnExactCallsOf", inPlace := ["internal/bytealg.IndexByteString", "internal/bytealg.IndexString"], unfollowed := true, recurses := true, named := ["loop.example/g01543/impl.keywords", "loop.example/g01543/impl.builtins", "internal/bytealg.MaxLen", "loop.example/g01543/impl.signs"], apart := false, laid := [("loop.example/g01543/impl.keywords", laid_loop_example_g01543_impl_keywords), ("loop.example/g01543/impl.signs", laid_loop_example_g01543_impl_signs), ("loop.example/g01543/impl.builtins", laid_loop_example_g01543_impl_builtins)] }
def FnExactCallsOfSaid : Prop := fnExactCallsOfRow.holds Tryz.pinned (OpenSpec.ofChange fnExactCallsOfSpec)

/-- ITS FALSE NEIGHBOUR: 'it returns false'. Refute it at one input. -/
def fnExactCallsOfWrong : ChangeSpec := { name := "fnExactCallsOf", vars := ["loop.example/g01543/impl.keywords", "loop.example/g01543/impl.builtins", "loop.example/g01543/impl.signs"], fn := fun _ => fun
  | [d, g1, g2, g3] => { results := [.lit (.bool false)], args := [d], vars := [g1, g2, g3] }
  | _ => none }
def FnExactCallsOfWrongFalsely : Prop := fnExactCallsOfRow.holds Tryz.pinned (OpenSpec.ofChange fnExactCallsOfWrong)

/-- 'laws.FnExactRecursive': WHATEVER THE INPUT: true; the input reads as it did. -/
def fnExactRecursiveSpec : ChangeSpec := { name := "fnExactRecursive", vars := ["loop.example/g01543/impl.keywords", "loop.example/g01543/impl.builtins", "loop.example/g01543/impl.signs"], fn := fun _ => fun
  | [d, g1, g2, g3] => { results := [.lit (.bool true)], args := [d], vars := [g1, g2, g3] }
  | _ => none }
def fnExactRecursiveRow : OpenClaim := { program := "ytodbelembghegaagreatdoor", sum := "3bec0b093c2eca8e45865b700873127e961de0eb514e043e56044ebef8597b1c", func := "loop.example/g01543/laws.FnExactRecursive", spec := "fnExactRecursive", inPlace := ["internal/bytealg.IndexByteString", "internal/bytealg.IndexString"], unfollowed := true, recurses := true, named := ["loop.example/g01543/impl.keywords", "loop.example/g01543/impl.builtins", "internal/bytealg.MaxLen", "loop.example/g01543/impl.signs"], apart := false, laid := [("loop.example/g01543/impl.keywords", laid_loop_example_g01543_impl_keywords), ("loop.example/g01543/impl.signs", laid_loop_example_g01543_impl_signs), ("loop.example/g01543/impl.builtins", laid_loop_example_g01543_impl_builtins)] }
def FnExactRecursiveSaid : Prop := fnExactRecursiveRow.holds Tryz.pinned (OpenSpec.ofChange fnExactRecursiveSpec)

/-- ITS FALSE NEIGHBOUR: 'it returns false'. Refute it at one input. -/
def fnExactRecursiveWrong : ChangeSpec := { name := "fnExactRecursive", vars := ["loop.example/g01543/impl.keywords", "loop.example/g01543/impl.builtins", "loop.example/g01543/impl.signs"], fn := fun _ => fun
  | [d, g1, g2, g3] => { results := [.lit (.bool false)], args := [d], vars := [g1, g2, g3] }
  | _ => none }
def FnExactRecursiveWrongFalsely : Prop := fnExactRecursiveRow.holds Tryz.pinned (OpenSpec.ofChange fnExactRecursiveWrong)

/-- 'laws.FnExactUncalled': WHATEVER THE INPUT: true; the input reads as it did. -/
def fnExactUncalledSpec : ChangeSpec := { name := "fnExactUncalled", vars := ["loop.example/g01543/impl.keywords", "loop.example/g01543/impl.builtins", "loop.example/g01543/impl.signs"], fn := fun _ => fun
  | [d, g1, g2, g3] => { results := [.lit (.bool true)], args := [d], vars := [g1, g2, g3] }
  | _ => none }
def fnExactUncalledRow : OpenClaim := { program := "ytodbelembghegaagreatdoor", sum := "3bec0b093c2eca8e45865b700873127e961de0eb514e043e56044ebef8597b1c", func := "loop.example/g01543/laws.FnExactUncalled", spec := "fnExactUncalled", inPlace := ["internal/bytealg.IndexByteString", "internal/bytealg.IndexString"], unfollowed := true, recurses := true, named := ["loop.example/g01543/impl.keywords", "loop.example/g01543/impl.builtins", "internal/bytealg.MaxLen", "loop.example/g01543/impl.signs"], apart := false, laid := [("loop.example/g01543/impl.keywords", laid_loop_example_g01543_impl_keywords), ("loop.example/g01543/impl.signs", laid_loop_example_g01543_impl_signs), ("loop.example/g01543/impl.builtins", laid_loop_example_g01543_impl_builtins)] }
def FnExactUncalledSaid : Prop := fnExactUncalledRow.holds Tryz.pinned (OpenSpec.ofChange fnExactUncalledSpec)

/-- ITS FALSE NEIGHBOUR: 'it returns false'. Refute it at one input. -/
def fnExactUncalledWrong : ChangeSpec := { name := "fnExactUncalled", vars := ["loop.example/g01543/impl.keywords", "loop.example/g01543/impl.builtins", "loop.example/g01543/impl.signs"], fn := fun _ => fun
  | [d, g1, g2, g3] => { results := [.lit (.bool false)], args := [d], vars := [g1, g2, g3] }
  | _ => none }
def FnExactUncalledWrongFalsely : Prop := fnExactUncalledRow.holds Tryz.pinned (OpenSpec.ofChange fnExactUncalledWrong)

/- THE SECOND FORM. 'bulk': how many values and letters a reading holds, each counted each time it is reached (what is shared counts as often as it is met; a slice's spare places count too). A statement '..UptoSaid' is the law's where the arguments, and the package variables that the reading takes, are together of bulk at most 1048576: NARROWER than '..Said'. Prove '..Said' where nothing that the law and all that it calls make is longer than what came in: it says more and counts as full. Else prove '..UptoSaid'. A law counts once. -/
mutual
def uptoBulk {H : Type} : DataW H → Nat
  | .lit (.string bytes) => bytes.length + 1
  | .lit _ => 1
  | .nil => 1
  | .ptr d => uptoBulk d + 1
  | .slice elems spare => uptoBulkAll elems + uptoBulkAll spare + 1
  | .agg parts => uptoBulkAll parts + 1
  | .iface _ d => uptoBulk d + 1
  | .map entries => uptoBulkEntries entries + 1
  | .held _ => 1
def uptoBulkAll {H : Type} : List (DataW H) → Nat
  | [] => 0
  | d :: r => uptoBulk d + uptoBulkAll r
def uptoBulkEntries {H : Type} : List (Lit × DataW H) → Nat
  | [] => 0
  | x :: r => uptoBulkEntry x + uptoBulkEntries r
def uptoBulkEntry {H : Type} : Lit × DataW H → Nat
  | (.string bytes, d) => bytes.length + uptoBulk d + 1
  | (_, d) => uptoBulk d + 1
 end
def uptoSmall : (H : Type) → List (DataW H) → Bool := fun _ ds => decide (uptoBulkAll ds ≤ 1048576)
def OpenSpec.upto (s : _root_.Go.ChangeSpec) : _root_.Go.OpenSpec := { _root_.Go.OpenSpec.ofChange s with cond := some uptoSmall }

/-- 'laws.FnExactMerge', WHERE WHAT IT READS IS OF BULK AT MOST 1048576: true; the input reads as it did. -/
def fnExactMergeUptoRow : OpenClaim := { program := "ytodbelembghegaagreatdoor", sum := "3bec0b093c2eca8e45865b700873127e961de0eb514e043e56044ebef8597b1c", func := "loop.example/g01543/laws.FnExactMerge", spec := "fnExactMerge", inPlace := ["internal/bytealg.IndexByteString", "internal/bytealg.IndexString"], unfollowed := true, recurses := true, named := ["loop.example/g01543/impl.keywords", "loop.example/g01543/impl.builtins", "internal/bytealg.MaxLen", "loop.example/g01543/impl.signs"], apart := false, laid := [("loop.example/g01543/impl.keywords", laid_loop_example_g01543_impl_keywords), ("loop.example/g01543/impl.signs", laid_loop_example_g01543_impl_signs), ("loop.example/g01543/impl.builtins", laid_loop_example_g01543_impl_builtins)], narrowed := true }
def FnExactMergeUptoSaid : Prop := fnExactMergeUptoRow.holds Tryz.pinned (OpenSpec.upto fnExactMergeSpec)

/-- 'laws.FnExactSubst', WHERE WHAT IT READS IS OF BULK AT MOST 1048576: true; the input reads as it did. -/
def fnExactSubstUptoRow : OpenClaim := { program := "ytodbelembghegaagreatdoor", sum := "3bec0b093c2eca8e45865b700873127e961de0eb514e043e56044ebef8597b1c", func := "loop.example/g01543/laws.FnExactSubst", spec := "fnExactSubst", inPlace := ["internal/bytealg.IndexByteString", "internal/bytealg.IndexString"], unfollowed := true, recurses := true, named := ["loop.example/g01543/impl.keywords", "loop.example/g01543/impl.builtins", "internal/bytealg.MaxLen", "loop.example/g01543/impl.signs"], apart := false, laid := [("loop.example/g01543/impl.keywords", laid_loop_example_g01543_impl_keywords), ("loop.example/g01543/impl.signs", laid_loop_example_g01543_impl_signs), ("loop.example/g01543/impl.builtins", laid_loop_example_g01543_impl_builtins)], narrowed := true }
def FnExactSubstUptoSaid : Prop := fnExactSubstUptoRow.holds Tryz.pinned (OpenSpec.upto fnExactSubstSpec)

/-- 'laws.FnExactSortFuncs', WHERE WHAT IT READS IS OF BULK AT MOST 1048576: true; the input reads as it did. -/
def fnExactSortFuncsUptoRow : OpenClaim := { program := "ytodbelembghegaagreatdoor", sum := "3bec0b093c2eca8e45865b700873127e961de0eb514e043e56044ebef8597b1c", func := "loop.example/g01543/laws.FnExactSortFuncs", spec := "fnExactSortFuncs", inPlace := ["internal/bytealg.IndexByteString", "internal/bytealg.IndexString"], unfollowed := true, recurses := true, named := ["loop.example/g01543/impl.keywords", "loop.example/g01543/impl.builtins", "internal/bytealg.MaxLen", "loop.example/g01543/impl.signs"], apart := false, laid := [("loop.example/g01543/impl.keywords", laid_loop_example_g01543_impl_keywords), ("loop.example/g01543/impl.signs", laid_loop_example_g01543_impl_signs), ("loop.example/g01543/impl.builtins", laid_loop_example_g01543_impl_builtins)], narrowed := true }
def FnExactSortFuncsUptoSaid : Prop := fnExactSortFuncsUptoRow.holds Tryz.pinned (OpenSpec.upto fnExactSortFuncsSpec)

/-- 'laws.FnExactCallsOf', WHERE WHAT IT READS IS OF BULK AT MOST 1048576: true; the input reads as it did. -/
def fnExactCallsOfUptoRow : OpenClaim := { program := "ytodbelembghegaagreatdoor", sum := "3bec0b093c2eca8e45865b700873127e961de0eb514e043e56044ebef8597b1c", func := "loop.example/g01543/laws.FnExactCallsOf", spec := "fnExactCallsOf", inPlace := ["internal/bytealg.IndexByteString", "internal/bytealg.IndexString"], unfollowed := true, recurses := true, named := ["loop.example/g01543/impl.keywords", "loop.example/g01543/impl.builtins", "internal/bytealg.MaxLen", "loop.example/g01543/impl.signs"], apart := false, laid := [("loop.example/g01543/impl.keywords", laid_loop_example_g01543_impl_keywords), ("loop.example/g01543/impl.signs", laid_loop_example_g01543_impl_signs), ("loop.example/g01543/impl.builtins", laid_loop_example_g01543_impl_builtins)], narrowed := true }
def FnExactCallsOfUptoSaid : Prop := fnExactCallsOfUptoRow.holds Tryz.pinned (OpenSpec.upto fnExactCallsOfSpec)

/-- 'laws.FnExactRecursive', WHERE WHAT IT READS IS OF BULK AT MOST 1048576: true; the input reads as it did. -/
def fnExactRecursiveUptoRow : OpenClaim := { program := "ytodbelembghegaagreatdoor", sum := "3bec0b093c2eca8e45865b700873127e961de0eb514e043e56044ebef8597b1c", func := "loop.example/g01543/laws.FnExactRecursive", spec := "fnExactRecursive", inPlace := ["internal/bytealg.IndexByteString", "internal/bytealg.IndexString"], unfollowed := true, recurses := true, named := ["loop.example/g01543/impl.keywords", "loop.example/g01543/impl.builtins", "internal/bytealg.MaxLen", "loop.example/g01543/impl.signs"], apart := false, laid := [("loop.example/g01543/impl.keywords", laid_loop_example_g01543_impl_keywords), ("loop.example/g01543/impl.signs", laid_loop_example_g01543_impl_signs), ("loop.example/g01543/impl.builtins", laid_loop_example_g01543_impl_builtins)], narrowed := true }
def FnExactRecursiveUptoSaid : Prop := fnExactRecursiveUptoRow.holds Tryz.pinned (OpenSpec.upto fnExactRecursiveSpec)

/-- 'laws.FnExactUncalled', WHERE WHAT IT READS IS OF BULK AT MOST 1048576: true; the input reads as it did. -/
def fnExactUncalledUptoRow : OpenClaim := { program := "ytodbelembghegaagreatdoor", sum := "3bec0b093c2eca8e45865b700873127e961de0eb514e043e56044ebef8597b1c", func := "loop.example/g01543/laws.FnExactUncalled", spec := "fnExactUncalled", inPlace := ["internal/bytealg.IndexByteString", "internal/bytealg.IndexString"], unfollowed := true, recurses := true, named := ["loop.example/g01543/impl.keywords", "loop.example/g01543/impl.builtins", "internal/bytealg.MaxLen", "loop.example/g01543/impl.signs"], apart := false, laid := [("loop.example/g01543/impl.keywords", laid_loop_example_g01543_impl_keywords), ("loop.example/g01543/impl.signs", laid_loop_example_g01543_impl_signs), ("loop.example/g01543/impl.builtins", laid_loop_example_g01543_impl_builtins)], narrowed := true }
def FnExactUncalledUptoSaid : Prop := fnExactUncalledUptoRow.holds Tryz.pinned (OpenSpec.upto fnExactUncalledSpec)

end Rows
end Go.Proofs.YtodbelembghegaaGreatDoor
