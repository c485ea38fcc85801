/-
  Primitives: slices.Sort and slices.Compact of strings.
-/
import Derived.Test.YtodbelembghegaaVm4
import Derived.Test.YtodbelembghegaaProg
namespace Go.Proofs.Ytodbelembghegaa
open Go Go.Vm

def M.slices_Sort (rows : List Row) : Option (List Row) := sortRows rows
def M.slices_Compact (rows : List Row) : Option (List Row) := compactRows rows
def Prim.slices_Sort (a : List V) (c : List Cell) : Option (List Row × List Cell) := sortPrim a c
def Prim.slices_Compact (a : List V) (c : List Cell) : Option (List Row × List Cell) := compactPrim a c
end Go.Proofs.Ytodbelembghegaa
