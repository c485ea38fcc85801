import Derived.Test.YtpcdaeebbpedoaaGreatDoorVm4
import Derived.Lib.Bytealg
import Derived.Test.YtpcdaeebbpedoaaGreatDoorSPrim
namespace Go.Proofs.YtpcdaeebbpedoaaGreatDoor
set_option linter.unusedVariables false
set_option linter.unusedSimpArgs false
open Go Go.Vm
def keywordsRow : Row := [.str [66, 69, 71, 73, 78], .str [69, 78, 68], .str [102, 117, 110, 99, 116, 105, 111, 110], .str [105, 102], .str [101, 108, 115, 101], .str [119, 104, 105, 108, 101], .str [102, 111, 114], .str [100, 111], .str [98, 114, 101, 97, 107], .str [99, 111, 110, 116, 105, 110, 117, 101], .str [110, 101, 120, 116], .str [101, 120, 105, 116], .str [114, 101, 116, 117, 114, 110], .str [100, 101, 108, 101, 116, 101], .str [105, 110], .str [112, 114, 105, 110, 116], .str [112, 114, 105, 110, 116, 102]]
def signsRow : Row := [.str [123], .str [125], .str [40], .str [41], .str [91], .str [93], .str [44], .str [59], .str [43, 61], .str [45, 61], .str [42, 61], .str [47, 61], .str [37, 61], .str [94, 61], .str [124, 124], .str [38, 38], .str [33, 126], .str [61, 61], .str [60, 61], .str [62, 61], .str [33, 61], .str [43, 43], .str [45, 45], .str [62, 62], .str [61], .str [43], .str [45], .str [42], .str [47], .str [37], .str [94], .str [33], .str [62], .str [60], .str [124], .str [63], .str [58], .str [126], .str [36]]
def builtinsRow : Row := [.str [97, 116, 97, 110, 50], .str [99, 108, 111, 115, 101], .str [99, 111, 115], .str [101, 120, 112], .str [103, 115, 117, 98], .str [105, 110, 100, 101, 120], .str [105, 110, 116], .str [108, 101, 110, 103, 116, 104], .str [108, 111, 103], .str [109, 97, 116, 99, 104], .str [114, 97, 110, 100], .str [115, 105, 110], .str [115, 112, 108, 105, 116], .str [115, 112, 114, 105, 110, 116, 102], .str [115, 113, 114, 116], .str [115, 114, 97, 110, 100], .str [115, 117, 98], .str [115, 117, 98, 115, 116, 114], .str [115, 121, 115, 116, 101, 109], .str [116, 111, 108, 111, 119, 101, 114], .str [116, 111, 117, 112, 112, 101, 114]]
def M.strings_Contains (s t : List UInt8) : Option Bool := match t with
  | [c] => some (decide (0 ≤ Lib.indexByte s c))
  | _ => none
def Prim.strings_Contains (a : List V) (c : List Cell) : Option (List Row × List Cell) := match a, c with
  | [.d (.str s), .d (.str t)], [] => (M.strings_Contains s t).map fun r => ([[.bool r]], [])
  | _, _ => none
end Go.Proofs.YtpcdaeebbpedoaaGreatDoor
