/-
  No cell of these rows narrows 'for every input' (looked for: loops, veiled, ifaces, maps, wideKeys, modest, calm, conditions, laid).
  DERIVED. THE GIVEN ROWS OF THIS SEAT. 6 by the template 'for every input the law returns true; each argument reads behind the call as it read before'; 0 by the template 'total and deterministic' (their statements: YtfbemlhfieemhaaTotals.lean).
  GIVEN WITH THE SEED: the statements are not yours to turn. If you find one false, say at which input.
  Laid BY PROGRAM, IN A SANDBOX (cutbox-rows.mjs): the forced cells as the released guide's own fill.sh prints them over the translation d86d7f2bf4736aaf… (all of the seat's roots in one cut). By AI agents, Wed Nov 11 2026. No macro, syntax, notation, axiom, sorry.
-/
import Derived.Test.YtfbemlhfieemhaaChecked
import GoSem.Claim
import GoSem.ClaimJoined
import GoSem.ClaimMapViews
import Derived.JoinedTies
import Derived.KernelRfl
namespace Go.Proofs.Ytfbemlhfieemhaa
/- THE CELL 'sum', in the pinned program and in every row, IS THE sha256 OF THE DUMP (.gsa) THAT YtfbemlhfieemhaaProg.lean LOADS. Nothing in Lean hashes anything: it is a label: what it is worth is what the hold of that sum in a sandbox is worth. -/
noncomputable def Try.pinned : Pinned := { name := "ytfbemlhfieemhaa", sum := "d86d7f2bf4736aaf253859a4b8e2d8b0d3963e21c434979770b59d3577431457", checked := Try.checked }
namespace Rows
def none {H : Type} : Left H := { results := [], args := [] }

/-- 'laws.FnExactAssignsTo': WHATEVER THE INPUT: true; the input reads as it did. -/
def fnExactAssignsToSpec : ChangeSpec := { name := "fnExactAssignsTo", fn := fun _ => fun
  | [d1, d2] => { results := [.lit (.bool true)], args := [d1, d2] }
  | _ => none }
def fnExactAssignsToRow : OpenClaim := { program := "ytfbemlhfieemhaa", sum := "d86d7f2bf4736aaf253859a4b8e2d8b0d3963e21c434979770b59d3577431457", func := "loop.example/g01543/laws.FnExactAssignsTo", spec := "fnExactAssignsTo", apart := false }
def FnExactAssignsToSaid : Prop := fnExactAssignsToRow.holds Try.pinned (OpenSpec.ofChange fnExactAssignsToSpec)

/-- ITS FALSE NEIGHBOUR: 'it returns false'. Refute it at one input. -/
def fnExactAssignsToWrong : ChangeSpec := { name := "fnExactAssignsTo", fn := fun _ => fun
  | [d1, d2] => { results := [.lit (.bool false)], args := [d1, d2] }
  | _ => none }
def FnExactAssignsToWrongFalsely : Prop := fnExactAssignsToRow.holds Try.pinned (OpenSpec.ofChange fnExactAssignsToWrong)

/-- 'laws.FnExactKindsIn': WHATEVER THE INPUT: true; the input reads as it did. -/
def fnExactKindsInSpec : ChangeSpec := { name := "fnExactKindsIn", fn := fun _ => fun
  | [d] => { results := [.lit (.bool true)], args := [d] }
  | _ => none }
def fnExactKindsInRow : OpenClaim := { program := "ytfbemlhfieemhaa", sum := "d86d7f2bf4736aaf253859a4b8e2d8b0d3963e21c434979770b59d3577431457", func := "loop.example/g01543/laws.FnExactKindsIn", spec := "fnExactKindsIn", unfollowed := true, recurses := true, apart := false }
def FnExactKindsInSaid : Prop := fnExactKindsInRow.holds Try.pinned (OpenSpec.ofChange fnExactKindsInSpec)

/-- ITS FALSE NEIGHBOUR: 'it returns false'. Refute it at one input. -/
def fnExactKindsInWrong : ChangeSpec := { name := "fnExactKindsIn", fn := fun _ => fun
  | [d] => { results := [.lit (.bool false)], args := [d] }
  | _ => none }
def FnExactKindsInWrongFalsely : Prop := fnExactKindsInRow.holds Try.pinned (OpenSpec.ofChange fnExactKindsInWrong)

/-- 'laws.FnExactNodeBy': WHATEVER THE INPUT: true; the input reads as it did. -/
def fnExactNodeBySpec : ChangeSpec := { name := "fnExactNodeBy", fn := fun _ => fun
  | [d1, d2] => { results := [.lit (.bool true)], args := [d1, d2] }
  | _ => none }
def fnExactNodeByRow : OpenClaim := { program := "ytfbemlhfieemhaa", sum := "d86d7f2bf4736aaf253859a4b8e2d8b0d3963e21c434979770b59d3577431457", func := "loop.example/g01543/laws.FnExactNodeBy", spec := "fnExactNodeBy", unfollowed := true, recurses := true, apart := false }
def FnExactNodeBySaid : Prop := fnExactNodeByRow.holds Try.pinned (OpenSpec.ofChange fnExactNodeBySpec)

/-- ITS FALSE NEIGHBOUR: 'it returns false'. Refute it at one input. -/
def fnExactNodeByWrong : ChangeSpec := { name := "fnExactNodeBy", fn := fun _ => fun
  | [d1, d2] => { results := [.lit (.bool false)], args := [d1, d2] }
  | _ => none }
def FnExactNodeByWrongFalsely : Prop := fnExactNodeByRow.holds Try.pinned (OpenSpec.ofChange fnExactNodeByWrong)

/-- 'laws.FnExactPreorder': WHATEVER THE INPUT: true; the input reads as it did. -/
def fnExactPreorderSpec : ChangeSpec := { name := "fnExactPreorder", fn := fun _ => fun
  | [d] => { results := [.lit (.bool true)], args := [d] }
  | _ => none }
def fnExactPreorderRow : OpenClaim := { program := "ytfbemlhfieemhaa", sum := "d86d7f2bf4736aaf253859a4b8e2d8b0d3963e21c434979770b59d3577431457", func := "loop.example/g01543/laws.FnExactPreorder", spec := "fnExactPreorder", unfollowed := true, recurses := true, apart := false }
def FnExactPreorderSaid : Prop := fnExactPreorderRow.holds Try.pinned (OpenSpec.ofChange fnExactPreorderSpec)

/-- ITS FALSE NEIGHBOUR: 'it returns false'. Refute it at one input. -/
def fnExactPreorderWrong : ChangeSpec := { name := "fnExactPreorder", fn := fun _ => fun
  | [d] => { results := [.lit (.bool false)], args := [d] }
  | _ => none }
def FnExactPreorderWrongFalsely : Prop := fnExactPreorderRow.holds Try.pinned (OpenSpec.ofChange fnExactPreorderWrong)

/-- 'laws.FnExactPathOf': WHATEVER THE INPUT: true; the input reads as it did. -/
def fnExactPathOfSpec : ChangeSpec := { name := "fnExactPathOf", fn := fun _ => fun
  | [d1, d2] => { results := [.lit (.bool true)], args := [d1, d2] }
  | _ => none }
def fnExactPathOfRow : OpenClaim := { program := "ytfbemlhfieemhaa", sum := "d86d7f2bf4736aaf253859a4b8e2d8b0d3963e21c434979770b59d3577431457", func := "loop.example/g01543/laws.FnExactPathOf", spec := "fnExactPathOf", unfollowed := true, recurses := true, apart := false }
def FnExactPathOfSaid : Prop := fnExactPathOfRow.holds Try.pinned (OpenSpec.ofChange fnExactPathOfSpec)

/-- ITS FALSE NEIGHBOUR: 'it returns false'. Refute it at one input. -/
def fnExactPathOfWrong : ChangeSpec := { name := "fnExactPathOf", fn := fun _ => fun
  | [d1, d2] => { results := [.lit (.bool false)], args := [d1, d2] }
  | _ => none }
def FnExactPathOfWrongFalsely : Prop := fnExactPathOfRow.holds Try.pinned (OpenSpec.ofChange fnExactPathOfWrong)

/-- 'laws.FnExactFirstApart': WHATEVER THE INPUT: true; the input reads as it did. -/
def fnExactFirstApartSpec : ChangeSpec := { name := "fnExactFirstApart", fn := fun _ => fun
  | [d1, d2] => { results := [.lit (.bool true)], args := [d1, d2] }
  | _ => none }
def fnExactFirstApartRow : OpenClaim := { program := "ytfbemlhfieemhaa", sum := "d86d7f2bf4736aaf253859a4b8e2d8b0d3963e21c434979770b59d3577431457", func := "loop.example/g01543/laws.FnExactFirstApart", spec := "fnExactFirstApart", unfollowed := true, recurses := true, apart := false }
def FnExactFirstApartSaid : Prop := fnExactFirstApartRow.holds Try.pinned (OpenSpec.ofChange fnExactFirstApartSpec)

/-- ITS FALSE NEIGHBOUR: 'it returns false'. Refute it at one input. -/
def fnExactFirstApartWrong : ChangeSpec := { name := "fnExactFirstApart", fn := fun _ => fun
  | [d1, d2] => { results := [.lit (.bool false)], args := [d1, d2] }
  | _ => none }
def FnExactFirstApartWrongFalsely : Prop := fnExactFirstApartRow.holds Try.pinned (OpenSpec.ofChange fnExactFirstApartWrong)

/- THE SECOND FORM. 'bulk': how many values and letters a reading holds, each counted each time it is reached (what is shared counts as often as it is met; a slice's spare places count too). A statement '..UptoSaid' is the law's where the arguments, and the package variables that the reading takes, are together of bulk at most 1048576: NARROWER than '..Said'. Prove '..Said' where nothing that the law and all that it calls make is longer than what came in: it says more and counts as full. Else prove '..UptoSaid'. A law counts once. -/
mutual
def uptoBulk {H : Type} : DataW H → Nat
  | .lit (.string bytes) => bytes.length + 1
  | .lit _ => 1
  | .nil => 1
  | .ptr d => uptoBulk d + 1
  | .slice elems spare => uptoBulkAll elems + uptoBulkAll spare + 1
  | .agg parts => uptoBulkAll parts + 1
  | .iface _ d => uptoBulk d + 1
  | .map entries => uptoBulkEntries entries + 1
  | .held _ => 1
def uptoBulkAll {H : Type} : List (DataW H) → Nat
  | [] => 0
  | d :: r => uptoBulk d + uptoBulkAll r
def uptoBulkEntries {H : Type} : List (Lit × DataW H) → Nat
  | [] => 0
  | x :: r => uptoBulkEntry x + uptoBulkEntries r
def uptoBulkEntry {H : Type} : Lit × DataW H → Nat
  | (.string bytes, d) => bytes.length + uptoBulk d + 1
  | (_, d) => uptoBulk d + 1
 end
def uptoSmall : (H : Type) → List (DataW H) → Bool := fun _ ds => decide (uptoBulkAll ds ≤ 1048576)
def OpenSpec.upto (s : _root_.Go.ChangeSpec) : _root_.Go.OpenSpec := { _root_.Go.OpenSpec.ofChange s with cond := some uptoSmall }

/-- 'laws.FnExactAssignsTo', WHERE WHAT IT READS IS OF BULK AT MOST 1048576: true; the input reads as it did. -/
def fnExactAssignsToUptoRow : OpenClaim := { program := "ytfbemlhfieemhaa", sum := "d86d7f2bf4736aaf253859a4b8e2d8b0d3963e21c434979770b59d3577431457", func := "loop.example/g01543/laws.FnExactAssignsTo", spec := "fnExactAssignsTo", apart := false, narrowed := true }
def FnExactAssignsToUptoSaid : Prop := fnExactAssignsToUptoRow.holds Try.pinned (OpenSpec.upto fnExactAssignsToSpec)

/-- 'laws.FnExactKindsIn', WHERE WHAT IT READS IS OF BULK AT MOST 1048576: true; the input reads as it did. -/
def fnExactKindsInUptoRow : OpenClaim := { program := "ytfbemlhfieemhaa", sum := "d86d7f2bf4736aaf253859a4b8e2d8b0d3963e21c434979770b59d3577431457", func := "loop.example/g01543/laws.FnExactKindsIn", spec := "fnExactKindsIn", unfollowed := true, recurses := true, apart := false, narrowed := true }
def FnExactKindsInUptoSaid : Prop := fnExactKindsInUptoRow.holds Try.pinned (OpenSpec.upto fnExactKindsInSpec)

/-- 'laws.FnExactNodeBy', WHERE WHAT IT READS IS OF BULK AT MOST 1048576: true; the input reads as it did. -/
def fnExactNodeByUptoRow : OpenClaim := { program := "ytfbemlhfieemhaa", sum := "d86d7f2bf4736aaf253859a4b8e2d8b0d3963e21c434979770b59d3577431457", func := "loop.example/g01543/laws.FnExactNodeBy", spec := "fnExactNodeBy", unfollowed := true, recurses := true, apart := false, narrowed := true }
def FnExactNodeByUptoSaid : Prop := fnExactNodeByUptoRow.holds Try.pinned (OpenSpec.upto fnExactNodeBySpec)

/-- 'laws.FnExactPreorder', WHERE WHAT IT READS IS OF BULK AT MOST 1048576: true; the input reads as it did. -/
def fnExactPreorderUptoRow : OpenClaim := { program := "ytfbemlhfieemhaa", sum := "d86d7f2bf4736aaf253859a4b8e2d8b0d3963e21c434979770b59d3577431457", func := "loop.example/g01543/laws.FnExactPreorder", spec := "fnExactPreorder", unfollowed := true, recurses := true, apart := false, narrowed := true }
def FnExactPreorderUptoSaid : Prop := fnExactPreorderUptoRow.holds Try.pinned (OpenSpec.upto fnExactPreorderSpec)

/-- 'laws.FnExactPathOf', WHERE WHAT IT READS IS OF BULK AT MOST 1048576: true; the input reads as it did. -/
def fnExactPathOfUptoRow : OpenClaim := { program := "ytfbemlhfieemhaa", sum := "d86d7f2bf4736aaf253859a4b8e2d8b0d3963e21c434979770b59d3577431457", func := "loop.example/g01543/laws.FnExactPathOf", spec := "fnExactPathOf", unfollowed := true, recurses := true, apart := false, narrowed := true }
def FnExactPathOfUptoSaid : Prop := fnExactPathOfUptoRow.holds Try.pinned (OpenSpec.upto fnExactPathOfSpec)

/-- 'laws.FnExactFirstApart', WHERE WHAT IT READS IS OF BULK AT MOST 1048576: true; the input reads as it did. -/
def fnExactFirstApartUptoRow : OpenClaim := { program := "ytfbemlhfieemhaa", sum := "d86d7f2bf4736aaf253859a4b8e2d8b0d3963e21c434979770b59d3577431457", func := "loop.example/g01543/laws.FnExactFirstApart", spec := "fnExactFirstApart", unfollowed := true, recurses := true, apart := false, narrowed := true }
def FnExactFirstApartUptoSaid : Prop := fnExactFirstApartUptoRow.holds Try.pinned (OpenSpec.upto fnExactFirstApartSpec)

end Rows
end Go.Proofs.Ytfbemlhfieemhaa
