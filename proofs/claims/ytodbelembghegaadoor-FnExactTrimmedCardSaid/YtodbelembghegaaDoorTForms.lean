/-
  The plain forms of the functions, and that they are what the functions come to.
-/
import Derived.Test.YtodbelembghegaaDoorVm4
import Derived.Test.YtodbelembghegaaDoorProg
import Derived.Test.YtodbelembghegaaDoorPrim
namespace Go.Proofs.YtodbelembghegaaDoor
open Go Go.Vm
set_option linter.unusedVariables false
set_option linter.unusedSimpArgs false
def kp3 : List (List Nat) := [[0], [0, 7], [2], [0, 3], [3, 4], [14], [2], [2]]
def kp4 : List (List Nat) := [[0], [0, 3], [0, 3], [0, 11], [2], [0, 4], [0, 4, 5], [0, 4, 5, 6], [0, 5, 21], [2], [26], [2], [2]]
def kp5 : List (List Nat) := [[0], [0, 3], [0, 3, 4], [3, 4, 5], [3, 4, 5, 6], [3, 4, 5, 6, 13], [3, 4, 5, 6], [3, 4, 5, 6, 7], [3, 4, 5, 6, 7, 31], [3, 5, 6, 7], [3, 4, 5, 6], [2]]
def kp6 : List (List Nat) := [[0], [0, 3, 4], [3, 4, 8, 9, 10], [3, 4, 8, 9, 10, 11], [3, 4, 6, 8, 9, 10], [3, 4, 6, 8, 9, 10], [3, 6, 8, 9, 10, 21], [3, 6, 8, 9, 10], [3, 4, 8, 9, 10], [3, 4, 8, 9, 10], [2]]
def kp7 : List (List Nat) := [[0, 1], [0, 1], [0, 1, 11], [4], [0, 1, 5], [0, 1, 5, 15], [0, 1, 5], [0, 1, 5], [0, 1, 5, 25], [4], [4]]
def kp8 : List (List Nat) := [[0], [0, 5], [2], [2]]
def kp9 : List (List Nat) := [[0], [0, 3], [0, 3, 4], [0, 3, 4, 11], [0, 3, 4], [0, 3, 4], [2]]
def kp10 : List (List Nat) := [[0], [0, 5], [2], [2]]
def kp11 : List (List Nat) := [[0, 1], [0, 1, 10], [4], [0, 1, 5], [0, 1, 5, 14], [0, 1, 5], [0, 1, 5, 26], [4], [4]]
def kp12 : List (List Nat) := [[0], [0, 3], [0, 3, 4], [0, 3, 4, 5], [0, 3, 4, 5, 10], [0, 3, 4, 5], [0, 3, 4, 5, 16], [0, 3, 5], [0, 3, 4, 5], [0, 3, 4, 29], [3], [2]]
def kp13 : List (List Nat) := [[0], [0, 3], [0, 3, 15], [0, 3], [2]]
def kp14 : List (List Nat) := [[0], [3], [3, 12], [3], [2]]
def kp15 : List (List Nat) := [[0, 1], [0, 1, 12], [4], [0, 1, 21], [4], [0, 1, 5, 6], [0, 1, 5, 31], [4], [4]]
def kp16 : List (List Nat) := [[1, 2], [1, 2], [1, 2, 11], [4], [1, 2], [1, 2, 18], [4], [1], [1, 24], [4], [4]]
def kp17 : List (List Nat) := [[0], [2]]
def kp18 : List (List Nat) := [[1, 2], [1, 2, 3], [1, 2, 3], [1, 2, 3], [1, 2, 3], [1, 2, 3], [2, 3], [2]]
def kp19 : List (List Nat) := [[0], [2]]
def kp20 : List (List Nat) := [[2, 3], [2, 3, 9], [4], [2, 3, 14], [4], [2, 3, 19], [4], [2, 3, 24], [4], [30], [4], [4]]
def kp21 : List (List Nat) := [[0], [2]]
def kp22 : List (List Nat) := [[0, 1], [4]]
def kp23 : List (List Nat) := [[0, 1], [0, 1, 16], [0, 1], [4]]
def kp24 : List (List Nat) := [[0, 2], [0, 2, 4], [0, 2, 4, 9], [0, 2, 4], [0, 2, 4, 5], [0, 2, 4, 5, 16], [2, 3], [0, 2, 4], [2, 3]]
def kp25 : List (List Nat) := [[0, 1], [0, 1, 7], [0, 1, 15], [0, 1], [4]]
def kp26 : List (List Nat) := [[0, 1], [0, 1, 9], [0, 1, 5, 6], [0, 1, 5, 6, 17], [0, 1, 5, 6], [0, 1, 6, 26], [0, 1], [4]]
def kp27 : List (List Nat) := [[0, 1], [1], [1, 10], [4], [4]]
def kp28 : List (List Nat) := [[0], [0, 12], [2], [0, 3], [0, 3, 16], [0, 3], [0, 3, 24], [2], [0, 3, 4], [0, 3, 4, 32], [0, 3, 4], [0, 3, 4, 53], [2], [2]]
def kp29 : List (List Nat) := [[0], [0, 3], [0, 3, 4], [0, 3, 4, 11], [0, 3, 4], [0, 3, 4], [2]]
def kp30 : List (List Nat) := [[0], [0, 9], [2], [0, 10, 11, 12], [0, 10, 11, 12, 13], [0, 4, 10, 11, 12], [0, 4, 10, 11, 12, 18], [2], [0, 4, 10, 11, 12, 20, 21, 22], [0, 4, 10, 11, 12, 20, 21, 22, 23], [0, 4, 5, 6, 10, 11, 12, 20, 21, 22], [0, 4, 10, 11, 12, 20, 21, 22, 35], [2], [0, 4, 10, 11, 12, 20, 21, 22], [0, 10, 11, 12], [2]]
def kp31 : List (List Nat) := [[0, 1], [0, 1, 10], [4], [0, 1, 5], [0, 1, 5, 14], [0, 1, 5], [0, 1, 5, 25], [4], [4]]
def kp32 : List (List Nat) := [[0, 1, 2, 3], [0, 1, 2, 3, 13], [8], [0, 1, 2, 3, 15], [8], [0, 1, 2, 3, 20], [0, 1, 2, 3], [0, 1, 2, 3], [0, 1, 2, 3, 9], [0, 1, 2, 3, 9], [0, 1, 2, 3, 9, 10], [0, 1, 2, 3, 9, 10, 36], [0, 1, 2, 3, 9, 10, 11], [0, 1, 2, 3, 9, 10, 11, 41], [0, 1, 2, 3, 9, 10, 11], [0, 1, 2, 3, 9, 10], [0, 1, 2, 3, 9, 10], [9, 10], [8]]
def kp33 : List (List Nat) := [[0, 1], [4]]
def kp34 : List (List Nat) := [[0], [0, 4], [0, 4, 10], [2, 3], [0, 4, 5], [0, 2, 4, 5], [0, 2, 4, 5, 18], [2, 3], [0, 4, 5, 6], [0, 4, 5, 6], [0, 4, 5, 6, 27], [0, 4, 5, 6], [0, 4, 5, 6, 33], [0, 4, 5, 35], [0, 4, 5], [2, 3, 4, 5], [2, 3, 48], [2, 3], [2, 3]]
def kp35 : List (List Nat) := [[0, 1], [4]]
def kp36 : List (List Nat) := [[0], [0, 8], [2], [0, 3, 4], [2]]
def kp37 : List (List Nat) := [[0], [0, 9], [2], [0, 3], [0, 3, 4], [0, 3, 4, 14], [0, 3, 4], [0, 3, 4, 5], [0, 3, 4, 5, 6], [0, 3, 4, 5, 6, 24], [0, 3, 4, 5, 6], [0, 3, 4, 5, 6], [0, 3, 4], [2]]
def kp38 : List (List Nat) := [[1], [1, 3, 4], [1, 3, 4, 5], [2]]
def kp39 : List (List Nat) := [[1, 2, 3], [1, 2, 3, 7], [1, 2, 3, 7, 8], [1, 2, 3, 7, 8, 18], [1, 2, 3, 7, 8, 18, 19], [1, 2, 3, 7, 8, 18, 19], [6], [1, 2, 3, 7, 8, 18, 24], [6], [1, 2, 3, 7, 8, 18, 36], [6], [1, 2, 3, 7, 8, 18, 51], [6], [1, 2, 3, 7, 8, 18, 66], [6], [1, 2, 3, 7, 8, 18, 81], [6], [1, 2, 3, 7, 8, 18, 100], [1, 2, 3, 7, 8, 18, 100], [1, 2, 3, 7, 8, 18, 100], [6], [1, 2, 3, 7, 8, 18, 105], [6], [1, 2, 3, 7, 8, 18, 109], [6], [1, 2, 7, 8, 18, 145], [6], [2, 7, 8, 18, 160], [6], [2, 174], [6], [6]]
def kp40 : List (List Nat) := [[0], [4], [2]]
def kp41 : List (List Nat) := [[1], [1, 3], [2], [1, 3, 5], [1, 3], [1, 3], [1, 3, 15], [1, 3], [1, 3, 29], [1, 3], [1, 3, 35], [1, 3], [2]]
def kp42 : List (List Nat) := [[1, 2, 3], [1, 2, 3, 7], [1, 2, 3, 7, 8], [1, 2, 3, 7, 8, 16], [1, 2, 3, 7, 8, 16, 17], [1, 2, 3, 7, 8, 16, 17], [6], [1, 2, 3, 7, 8, 16, 22], [6], [1, 2, 3, 7, 8, 16, 38], [1, 2, 3, 7, 8, 16, 38], [2, 8], [1, 2, 3, 7, 8, 16, 43], [2, 7, 50], [6], [2, 8], [1, 2, 3, 7, 8, 16, 52], [2, 8], [2, 3, 7, 8, 16, 56], [2, 3, 7, 8, 16, 56], [2, 3, 7, 8, 16, 56], [2, 8], [2, 3, 7, 8, 16, 60], [6], [2, 3, 7, 8, 16, 64], [2, 8], [2, 3, 7, 8, 16, 72], [2, 8], [2, 7, 8, 16, 80], [2, 83], [6], [2, 8], [2, 8, 86], [6], [2, 94], [6], [6]]
def kp43 : List (List Nat) := [[0, 2], [2]]
def kp44 : List (List Nat) := [[1], [1, 3], [3, 7, 8, 9], [3, 7, 8, 9, 10], [3, 5, 7, 8, 9], [3, 7, 8, 9], [3, 7, 8, 9], [2]]
def kp45 : List (List Nat) := [[0, 1], [0, 1, 5], [0, 1, 5, 18], [0, 1], [0, 1, 6], [0, 1, 6, 7], [0, 1, 6, 7, 25], [0, 1, 6, 7], [0, 1, 6, 7, 9], [0, 1, 6, 7, 9], [0, 1, 6, 7], [0, 1, 6, 43], [6], [4]]
def kp46 : List (List Nat) := [[0, 1], [0, 1, 9], [4], [0, 1, 15], [4], [0, 1, 5], [0, 1, 5, 6], [0, 1, 5, 6, 24], [4], [0, 1, 5, 6], [0, 1, 5]]
def kp47 : List (List Nat) := [[0, 1], [4]]
def kp48 : List (List Nat) := [[0], [2]]
def kp49 : List (List Nat) := [[0], [0, 10], [2, 3], [2, 3]]
def kp50 : List (List Nat) := [[0, 1], [0, 7], [0, 7, 8], [0, 7, 8, 9], [0, 7, 8, 9], [0, 7, 8, 9, 26], [0, 7, 8, 9, 33], [0, 7, 8, 9, 11], [0, 7, 8, 9, 11, 43], [4], [0, 7, 8, 9], [0, 7, 8, 9, 12], [0, 7, 8, 9, 12, 51], [0, 7, 8, 9, 12], [0, 7, 8, 9, 12, 64], [4], [0, 7, 8, 9, 10], [0, 7, 8, 9, 10], [0, 7, 8, 9, 98], [4], [8, 9, 13], [8, 9, 13, 108], [4], [0, 7, 8, 9, 14], [0, 7, 8, 9, 14, 15], [0, 7, 8, 9, 14, 15, 124], [0, 7, 8, 9, 14, 15], [0, 7, 8, 9, 14, 15, 139], [0, 7, 8, 9, 14, 15, 16], [0, 7, 8, 9, 14, 15, 16, 143], [0, 7, 8, 9, 14, 15, 16], [0, 7, 8, 9, 14, 15, 16, 156], [4], [4], [0, 1, 160], [4], [0, 1, 171], [175], [175, 176, 177], [5, 6, 175], [5, 175, 181], [4], [4], [0, 1, 183], [4]]
def kp51 : List (List Nat) := [[0, 1, 2], [6]]
def kp52 : List (List Nat) := [[0], [0, 4], [0, 4, 5], [0, 4, 5, 12], [0, 4, 5], [0, 4, 5, 6], [0, 4, 5, 6, 7], [0, 4, 5, 6, 7, 24], [0, 4, 5, 6, 7], [0, 4, 5, 6, 7, 41], [2, 3], [0, 4, 5, 6, 7], [0, 4, 5], [2, 3]]
def kp53 : List (List Nat) := [[1], [1, 6], [1, 6, 7], [1, 6, 7], [2, 3], [1, 6, 10], [1, 6, 10], [1, 6, 10], [2, 3], [1, 6, 14], [1, 6, 14], [1, 6, 14], [1, 6, 14], [1, 6, 14], [1, 6, 14], [1, 6, 14], [1, 6, 14], [2, 3], [1, 6, 23], [1, 6, 23], [1, 6, 23], [1, 6, 23], [2, 3], [1, 6, 28], [2, 3], [1, 6, 30], [1, 4], [4, 36], [2, 3], [2, 3], [1, 6, 40], [1, 6, 40], [2, 3], [1, 6, 43], [2, 3], [1, 6, 45], [2, 3], [1, 6, 47], [1, 6, 47], [2, 3], [1, 6, 53], [2, 3], [1, 6, 63], [2, 3], [73], [2, 3], [2, 3]]
def kp54 : List (List Nat) := [[1], [1, 4], [1, 4, 5], [1, 4, 5], [2], [1, 4, 16], [2], [1, 4, 31], [2], [1, 4, 36], [2], [1, 4, 41], [2], [1, 4, 46], [2], [1, 51], [2], [2]]
def kp55 : List (List Nat) := [[1], [1, 4], [1, 4, 5], [1, 4, 5], [1, 4, 5], [1, 4, 5], [1, 4, 5], [1, 4, 5], [2], [1, 4, 20], [2], [1, 4, 31], [2], [1, 4, 42], [2], [1, 4, 53], [2], [1, 4, 64], [2], [1, 4, 74], [2], [1, 84], [2], [2]]
def kp56 : List (List Nat) := [[0], [2]]
def kp57 : List (List Nat) := [[0], [2]]
def kp58 : List (List Nat) := [[0], [2]]
def kp59 : List (List Nat) := [[0, 2, 3, 9, 30], [0, 2, 3, 9, 13, 30], [2, 3], [0, 2, 3, 4, 9, 30], [0, 2, 3, 4, 9, 17, 18, 19, 30], [0, 2, 3, 4, 9, 17, 18, 19, 20, 30], [0, 2, 3, 4, 5, 6, 9, 17, 18, 19, 30], [0, 2, 3, 4, 5, 6, 7, 9, 17, 18, 19, 30], [0, 2, 3, 4, 5, 7, 9, 17, 18, 19, 28, 30], [0, 2, 3, 4, 5, 7, 9, 17, 18, 19, 28, 30], [0, 2, 3, 4, 5, 7, 9, 17, 18, 19, 28, 30, 37], [2, 3], [0, 2, 3, 4, 5, 7, 9, 17, 18, 19, 28, 30], [0, 2, 3, 4, 9, 17, 18, 19, 30], [0, 2, 3, 4, 9, 17, 18, 19, 30], [2, 3]]
def kp60 : List (List Nat) := [[0], [2]]
def kp61 : List (List Nat) := [[1, 2], [1, 2, 4], [1, 2, 4, 5], [2], [1, 2, 4, 14], [1, 2, 4, 14], [1, 2, 4, 14], [2], [1, 2, 4, 31], [1, 2, 4, 31], [2], [1, 2, 4, 41], [2], [1, 2, 4, 50], [2], [1, 2, 4, 59], [2], [1, 2, 4, 68], [1, 2, 4, 68], [2], [1, 2, 4, 78], [2], [1, 2, 4, 97], [2], [1, 2, 107], [2], [2]]
def kp62 : List (List Nat) := [[0], [2]]
def kp63 : List (List Nat) := [[1, 2], [1, 2, 3], [1, 2, 3, 15], [1, 2, 3, 15, 16], [2, 3], [1, 2, 3, 15, 20], [1, 2, 3], [1, 2, 3], [1, 2, 3], [2, 3, 42], [2, 3], [1, 2, 3, 15, 51], [1, 2, 3, 15, 51], [2, 3], [1, 2, 3, 15, 55], [2, 3], [1, 2, 3, 15, 62], [2, 3], [1, 2, 3, 15, 66], [1, 2, 3, 15, 66], [2, 3], [1, 2, 3, 15, 71], [2, 3], [1, 2, 3, 15, 75], [2, 3], [1, 2, 3, 15, 87], [2, 3], [1, 2, 3, 90], [2, 3], [2]]
def kp64 : List (List Nat) := [[0, 1, 2], [6]]
def kp65 : List (List Nat) := [[1, 2], [1, 2, 3], [1, 2, 3, 15], [2, 3], [1, 2, 3, 15, 17], [1, 2, 3, 15, 17], [2, 3], [1, 2, 3, 15, 22], [1, 2, 3], [2, 3, 31], [2, 3], [2, 3], [1, 2, 3, 15, 36], [1, 2, 3], [2, 3, 50], [2, 3], [2, 3], [1, 2, 3, 55], [2, 3], [2]]
def kp66 : List (List Nat) := [[0], [2]]
def kp67 : List (List Nat) := [[0], [2]]
def kp68 : List (List Nat) := [[0, 1, 4], [0, 4, 5], [0, 4, 5, 6], [0, 4, 6, 23, 24, 25], [0, 4, 6, 23, 24, 25, 26], [0, 4, 6, 8, 23, 24, 25], [0, 4, 6, 23, 24, 25], [0, 4, 6, 23, 24, 25], [4]]
def kp69 : List (List Nat) := [[0, 2], [2, 4], [2, 4, 6], [2, 4], [2]]
def kp71 : List (List Nat) := [[0, 1], [0, 1, 5], [0, 1, 5, 16], [4], [0, 1, 5, 24], [4], [0, 1, 5, 31], [4], [0, 1, 5, 36], [4], [0, 1, 5, 6], [0, 1, 5, 6, 7], [0, 1, 5, 6, 7, 8], [0, 1, 5, 6, 7, 8, 9], [0, 1, 5, 6, 7, 8, 9, 10], [0, 1, 5, 6, 7, 8, 9, 10, 59], [0, 1, 5, 6, 7, 8, 9, 10, 64], [0, 1, 5, 6, 7, 8, 9, 10, 11], [0, 1, 5, 6, 7, 8, 9, 10, 11, 73], [4], [0, 1, 5, 6, 7, 8, 9, 10], [0, 1, 5, 6, 7, 8, 9, 10, 93], [4], [0, 1, 5, 6, 7, 8, 9, 10], [0, 1, 5, 6, 7, 8, 9, 10], [0, 1, 5, 6, 7, 8, 9, 10, 107], [8, 12], [8, 12, 114], [4], [4], [0, 1, 5, 6, 7, 8, 9, 10, 132], [8, 13], [8, 13, 139], [4], [4], [4]]
def kp72 : List (List Nat) := [[0], [0, 4], [0, 4, 16], [2, 3], [0, 4, 5], [0, 4, 5, 6], [0, 4, 5, 6, 23], [0, 7], [2, 3], [0, 4, 5, 6, 8], [0, 4, 5, 8, 9], [0, 5, 8, 9, 45], [2, 3], [0, 5, 8, 9, 10], [0, 5, 8, 10, 57], [2, 3], [0, 5, 8, 10, 59], [2, 3], [0, 5, 8, 10, 11], [0, 5, 8, 10, 11, 75], [2, 3], [0, 5, 10, 11, 77], [2, 3], [5, 10, 11, 12], [5, 10, 11, 12, 98], [2, 3], [2, 3]]
def kp73 : List (List Nat) := [[0, 1], [4]]
def kp74 : List (List Nat) := [[0], [0, 3], [2], [10], [2], [2]]
def kp75 : List (List Nat) := [[0], [2]]
def kp77 : List (List Nat) := [[0], [3], [3, 4], [3, 4], [3, 4], [3, 4], [3, 4], [3, 4], [3, 4], [3, 4], [3, 4], [3, 4], [3, 4], [3, 4], [3, 4], [3, 4], [3, 4], [3, 4], [4], [2], [2]]
def kp78 : List (List Nat) := [[0], [2]]
def kp79 : List (List Nat) := [[0], [2]]
def kp80 : List (List Nat) := [[1], [1, 3], [1, 3, 8], [1, 3, 8, 9], [2], [1, 3, 8, 24], [2], [1, 3, 8, 35], [2], [1, 3, 8, 42], [2], [1, 8, 49], [1, 8, 49], [2], [1, 55], [2], [2]]
def kp81 : List (List Nat) := [[0], [2]]
def kp82 : List (List Nat) := [[1], [2]]
def kp83 : List (List Nat) := [[0], [2]]
def kp84 : List (List Nat) := [[1], [1, 5], [2], [1, 7], [1, 7, 8], [2], [1, 7, 20], [2], [1, 7, 29], [2], [1, 7, 38], [2], [1, 7, 47], [1, 7, 47], [2], [1, 53], [2], [2]]
def kp85 : List (List Nat) := [[0], [2]]
def kp86 : List (List Nat) := [[0], [2]]
def kp87 : List (List Nat) := [[0], [3], [3, 4], [2], [3, 6], [2], [3, 8], [3, 8], [2], [3, 11], [3, 11], [3, 11], [3, 11], [3, 11], [3, 11], [2], [3, 18], [2], [3, 20], [3, 20], [2], [3, 23], [3, 23], [3, 23], [2], [27], [2], [2]]
def kp88 : List (List Nat) := [[0], [2]]
def kp89 : List (List Nat) := [[0, 1], [4]]
def kp90 : List (List Nat) := [[0, 1], [4]]
def kp91 : List (List Nat) := [[0, 1], [0, 1, 5, 6], [0, 1, 5, 6, 7], [0, 1, 5, 6, 7, 8], [0, 1, 5, 6, 7, 8, 9], [0, 1, 5, 6, 7, 8, 9, 20], [0, 1, 5, 6, 7, 8, 9], [0, 1, 5, 6, 7, 8, 9], [0, 1, 5, 6, 7, 8, 39], [4], [0, 1, 5, 6, 7, 8, 10], [0, 1, 5, 6, 7, 8, 10, 44], [0, 1, 5, 6, 7, 8, 10], [0, 1, 5, 6, 7, 8, 10], [0, 1, 5, 6, 7, 8, 10], [0, 1, 5, 6, 7, 8, 10], [0, 1, 5, 6, 7, 8, 10, 77], [4], [4]]
def kp92 : List (List Nat) := [[0], [0, 3], [0, 3, 7], [0, 3], [0, 3, 15], [2], [2]]
def kp93 : List (List Nat) := [[0], [3], [3, 8], [2], [2]]
def kp94 : List (List Nat) := [[0], [0, 3], [0, 3, 7], [0, 3], [0, 3, 13], [2], [2]]
def kp95 : List (List Nat) := [[0, 1], [0, 1, 9], [4], [0, 1, 5], [0, 1, 5, 16], [0, 1, 5, 6], [0, 1, 6, 29], [4], [0, 1, 5], [0, 5, 33], [4], [0, 5, 43], [0, 5, 7], [0, 5, 7, 55], [0, 5, 7], [0, 5, 7, 62], [4], [4]]
def kp96 : List (List Nat) := [[0, 1], [4]]
def kp97 : List (List Nat) := [[0, 1], [1, 5], [5, 12], [4], [4]]
def kp98 : List (List Nat) := [[0], [0, 3], [2], [0, 6], [2], [0, 14], [2], [2]]
def kp99 : List (List Nat) := [[0, 1], [0, 1, 5], [0, 1, 5, 9], [0, 1, 5], [0, 1, 5, 17], [4], [4]]
def kp100 : List (List Nat) := [[], [0]]
def kp101 : List (List Nat) := [[0, 1, 3], [0, 1, 3, 8], [0, 1, 3], [0, 1, 3, 18]]
def kp102 : List (List Nat) := [[0], [0, 5, 6], [0, 5, 6, 7], [0, 3, 5, 6], [0, 5, 6, 14], [2], [0, 5, 6], [2]]
def kp103 : List (List Nat) := [[0], [3], [3, 8], [2], [2]]
def kp104 : List (List Nat) := [[0, 1], [4]]
def kp105 : List (List Nat) := [[0, 1], [0, 1, 17], [4], [0, 1, 5], [0, 5, 6], [0, 5, 6, 27], [0, 5, 6, 7], [0, 6, 7], [0, 5, 6], [0, 5, 40], [4], [0, 5, 8], [0, 5, 49], [0, 5, 9], [0, 5, 9, 10], [0, 5, 9, 60], [0, 5, 9], [5, 9, 11], [5, 11, 68], [4], [4]]
def kp106 : List (List Nat) := [[0, 1], [4]]
def kp107 : List (List Nat) := [[0, 1], [1, 5], [5, 12], [4], [4]]
def kp108 : List (List Nat) := [[0], [0, 3], [2], [0, 6], [2], [0, 13], [2], [2]]
def kp109 : List (List Nat) := [[0, 1], [0, 1, 7, 8], [0, 1, 7, 8, 9], [0, 1, 5, 7, 8], [0, 1, 5, 7, 8, 16], [4], [0, 1, 7, 8], [4]]
def kp111 : List (List Nat) := [[0], [0, 4], [0, 4, 5], [0, 4, 5, 12], [0, 4, 5], [0, 4, 5], [0, 4, 6, 7], [4, 6, 7, 8], [4, 6, 7, 8, 25], [4, 6, 7, 8], [4, 6, 7, 8, 30], [4, 6, 7, 8], [4, 6, 7, 8], [2, 3]]
def kp112 : List (List Nat) := [[0], [2]]
def kp113 : List (List Nat) := [[0], [2]]
def kp114 : List (List Nat) := [[], [0]]
def kp115 : List (List Nat) := [[0, 1], [0, 1, 8], [0, 1], [4]]
def kp116 : List (List Nat) := [[0, 1], [0, 1, 12], [4], [4]]
def kp117 : List (List Nat) := [[0, 1, 2], [0, 1, 2, 12], [6], [0, 2, 7], [0, 2, 7, 18], [0, 2, 7], [0, 2, 7, 24], [0, 2, 7, 24, 25], [6], [0, 2, 7, 24, 30], [6], [0, 2, 7, 32], [0, 2, 7], [0, 2, 7, 39], [6], [6]]
def kp118 : List (List Nat) := [[], [0]]
def kp119 : List (List Nat) := [[0], [2]]
def kp120 : List (List Nat) := [[0], [2]]
def kp121 : List (List Nat) := [[0, 1], [0, 1, 8], [0, 1], [4]]
def kp122 : List (List Nat) := [[0, 1], [0, 1, 10], [4], [4]]
def kp123 : List (List Nat) := [[0, 1, 2], [0, 1, 2, 12], [6], [0, 2, 7], [0, 2, 7, 24], [0, 2, 7], [0, 2, 7, 27], [6], [0, 2, 7, 36], [0, 2, 7], [6]]
def kp124 : List (List Nat) := [[0], [2]]
def kp125 : List (List Nat) := [[0], [2]]
def kp126 : List (List Nat) := [[0], [2]]
def kp127 : List (List Nat) := [[0], [2]]
def keepT : List (List (List Nat)) := [[], [], [], kp3, kp4, kp5, kp6, kp7, kp8, kp9, kp10, kp11, kp12, kp13, kp14, kp15, kp16, kp17, kp18, kp19, kp20, kp21, kp22, kp23, kp24, kp25, kp26, kp27, kp28, kp29, kp30, kp31, kp32, kp33, kp34, kp35, kp36, kp37, kp38, kp39, kp40, kp41, kp42, kp43, kp44, kp45, kp46, kp47, kp48, kp49, kp50, kp51, kp52, kp53, kp54, kp55, kp56, kp57, kp58, kp59, kp60, kp61, kp62, kp63, kp64, kp65, kp66, kp67, kp68, kp69, [], kp71, kp72, kp73, kp74, kp75, [], kp77, kp78, kp79, kp80, kp81, kp82, kp83, kp84, kp85, kp86, kp87, kp88, kp89, kp90, kp91, kp92, kp93, kp94, kp95, kp96, kp97, kp98, kp99, kp100, kp101, kp102, kp103, kp104, kp105, kp106, kp107, kp108, kp109, [], kp111, kp112, kp113, kp114, kp115, kp116, kp117, kp118, kp119, kp120, kp121, kp122, kp123, kp124, kp125, kp126, kp127, [], [], [], [], [], [], [], [], [], [], [], [], [], [], [], [], [], [], [], [], [], [], [], [], [], [], []]
def refT : List (List Nat) := []
def moveT : List (List Nat) := []
def fuseT : List (List Nat) := []
def bownT : List (List Nat) := []
def truncT : List (List Nat) := [[], [], [], [], [], [], [], [], [], [], [], [], [], [], [17]]
noncomputable def adv : Adv := ⟨fun f r => (keepT.getD f []).getD r [], fun f => moveT.getD f [], fun f => refT.getD f [], fun _ _ => List.range 200, fun t => (bownT.getD t []), fun f r => (fuseT.getD f []).getD r 0, fun f d => mem? d (truncT.getD f [])⟩
noncomputable def X0 : Ctx := ⟨Tryd.prog, adv, fun f => bif Nat.beq f 15 then some Prim.strings_TrimRight else bif Nat.beq f 22 then some Prim.strings_Split else bif Nat.beq f 104 then some Prim.strings_Contains else none, fun g => none, fun g => bif Nat.beq g 0 then true else false⟩

/-! spec_LinesOf -/
def H.spec_LinesOf (o : List UInt8 → Option (List Row)) : Prop := ∀ (s' : List UInt8) (r : List Row), o s' = some r → call X0 12 [V.d (D.str s')] [] = some ([[D.sl true 1 r]], [])
def P.spec_LinesOf (o : List UInt8 → Option (List Row)) (q : List V → List Cell → Res (List Row × List Cell)) (a : List V) (c : List Cell) : Res (List Row × List Cell) := match a, c with
  | [V.d (D.str s')], [] => ⟨List Row, o s', fun r => ([[D.sl true 1 r]], [])⟩
  | a, c => q a c
theorem P.spec_LinesOf_ok {o : List UInt8 → Option (List Row)} {q : List V → List Cell → Res (List Row × List Cell)} (h : H.spec_LinesOf o) (hq : FnOk X0 12 q) : FnOk X0 12 (P.spec_LinesOf o q) := by
  intro a c r hr
  unfold P.spec_LinesOf at hr
  split at hr
  · obtain ⟨x, hx, rfl⟩ := Res.val_some hr
    exact h _ x hx
  · exact hq _ _ _ hr
noncomputable def M.spec_LinesOf_l4_C {R : Type} (s' : List UInt8) (s : Int × Int × List Row) (kn : Int × Int × List Row → Option R) (ke : Int × Int × Bool × List Row → Option R) : Option R := match s with
  | (from', i, x') =>
    bif decide (i < (↑s'.length : Int)) then
     ((idx s' i).bind fun c0 =>
      (bif (↑c0.toNat : Int) == 10 then
       ((cut s' from' i).bind fun s1 =>
        (bif ((x'.length + [[D.str s1]].length) * 16).ble 140737488355328 then
         (bif (x'.length + [[D.str s1]].length).ble 140737488355328 then (kn ((IntKind.i64.wrap (i + 1), IntKind.i64.wrap (i + 1), x' ++ [[D.str s1]]))) else none) else none)) else (kn ((from', IntKind.i64.wrap (i + 1), x'))))) else (ke ((from', i, decide (i < (↑s'.length : Int)), x')))
noncomputable def M.spec_LinesOf_l4_b (s' : List UInt8) (s : Int × Int × List Row) : Option ((Int × Int × List Row) ⊕ (Int × Int × Bool × List Row)) := M.spec_LinesOf_l4_C s' s (fun s => some (.inl s)) (fun t => some (.inr t))
noncomputable def M.spec_LinesOf_l4 (s' : List UInt8) (s : Int × Int × List Row) : Option (Int × Int × Bool × List Row) := loopM (M.spec_LinesOf_l4_b s') s
theorem M.spec_LinesOf_l4_n {R : Type} (s' : List UInt8) (s : Int × Int × List Row) (kn : Int × Int × List Row → Option R) (ke : Int × Int × Bool × List Row → Option R) : M.spec_LinesOf_l4_C s' s kn ke = (M.spec_LinesOf_l4_b s' s).bind fun r => match r with | .inl s => kn s | .inr t => ke t := by
  obtain ⟨from', i, x'⟩ := s
  all_goals
    simp only [M.spec_LinesOf_l4_b, M.spec_LinesOf_l4_C, bif_bind, bind_bind, some_bind, none_bind, sumE_bind, optE_bind, letE_bind]
def A.spec_LinesOf_l4 (s' : List UInt8) : Alt (Ex × St) := .leaf (Int × Int × Bool × List Row) (fun t => (Ex.exit 0, { tm := [(0, V.d (D.str s')), (3, V.own 300000 0), (4, V.d (D.int IntKind.i64 t.fst)), (5, V.d (D.int IntKind.i64 t.snd.fst)), (10, V.d (D.bool t.snd.snd.fst))], mem := [(300000, Cell.arr false true 0 1 t.snd.snd.snd)] }))
def T.spec_LinesOf_l4 (s' : List UInt8) (s : Int × Int × List Row) : St := match s with
  | (from', i, x') => { tm := [(0, V.d (D.str s')), (3, V.own 300000 0), (4, V.d (D.int IntKind.i64 from')), (5, V.d (D.int IntKind.i64 i))], mem := [(300000, Cell.arr false true 0 1 x')] }
noncomputable def K.spec_LinesOf_l4 : KonC := knil
noncomputable def L.spec_LinesOf_l4 : LoopC := lnil
theorem E.spec_LinesOf_l4 {R : Type} (s' : List UInt8) (s : Int × Int × List Row) (k : Ex → St → Option R) : denC X0 (K.spec_LinesOf_l4) (L.spec_LinesOf_l4) 12 (loopCode X0.P 12 4) (T.spec_LinesOf_l4 s' s) k = M.spec_LinesOf_l4_C s' s (fun s => k .normal (T.spec_LinesOf_l4 s' s)) (fun t => (A.spec_LinesOf_l4 s').go t fun r => k r.1 r.2) := by
  obtain ⟨from', i, x'⟩ := s
  all_goals kernel_rfl
theorem LC.spec_LinesOf_l4 : loops (loopCode X0.P 12 4) = [] := by kernel_rfl
noncomputable def PL.spec_LinesOf_l4 (S : St) : ResA (Ex × St) := match S with
  | { tm := [(0, V.d (D.str s')), (3, V.own 300000 0), (4, V.d (D.int IntKind.i64 from')), (5, V.d (D.int IntKind.i64 i))], mem := [(300000, Cell.arr false true 0 1 x')] } => ⟨A.spec_LinesOf_l4 s', M.spec_LinesOf_l4 s' ((from', i, x'))⟩
  | _ => .none
theorem C.spec_LinesOf_l4 : LpOk X0 12 4 (loopCode X0.P 12 4) (PL.spec_LinesOf_l4) := by
  refine ⟨by kernel_rfl, fun S r hr => ?_⟩
  unfold PL.spec_LinesOf_l4 at hr
  split at hr
  · obtain ⟨x, hx, rfl⟩ := ResA.val_some hr
    exact lp_sound (K := K.spec_LinesOf_l4) (L := L.spec_LinesOf_l4) (b := M.spec_LinesOf_l4_b _) (tm := T.spec_LinesOf_l4 _) (tx := (A.spec_LinesOf_l4 _).enc) knil_ok (by rw [LC.spec_LinesOf_l4]; exact LOk.nil) (fun s => by rw [E.spec_LinesOf_l4, M.spec_LinesOf_l4_n]; congr 1; funext r; cases r <;> first | rfl | exact Alt.go_eq _ _ _) (by intro t; intro h; cases h) hx (s := (_, _, _))
  · cases hr
noncomputable def M.spec_LinesOf_C {R : Type} (s' : List UInt8) (k : List Row → Option R) : Option R :=
  (M.spec_LinesOf_l4 s' ((0, 0, []))).bind fun t2 =>
   (bif decide (t2.fst < (↑s'.length : Int)) then
    ((cut s' t2.fst (↑s'.length : Int)).bind fun s3 =>
     (bif ((t2.snd.snd.snd.length + [[D.str s3]].length) * 16).ble 140737488355328 then
      (bif (t2.snd.snd.snd.length + [[D.str s3]].length).ble 140737488355328 then
       (bif flatRows (t2.snd.snd.snd ++ [[D.str s3]]) then (k (t2.snd.snd.snd ++ [[D.str s3]])) else none) else none) else none)) else (bif flatRows t2.snd.snd.snd then (k t2.snd.snd.snd) else none))
noncomputable def M.spec_LinesOf (s' : List UInt8) : Option (List Row) := M.spec_LinesOf_C s' some
theorem M.spec_LinesOf_n {R : Type} (s' : List UInt8) (k : List Row → Option R) : M.spec_LinesOf_C s' k = (M.spec_LinesOf_C s' some).bind k := by
  simp only [M.spec_LinesOf_C, bif_bind, bind_bind, some_bind, none_bind, sumE_bind, optE_bind, letE_bind]
noncomputable def K.spec_LinesOf : KonC := knil
noncomputable def L.spec_LinesOf : LoopC := (lcons 4 (PL.spec_LinesOf_l4) lnil)
theorem E.spec_LinesOf {R : Type} (s' : List UInt8) (k : List Row → List Cell → Option R) : bodyC X0 (K.spec_LinesOf) (L.spec_LinesOf) 12 [V.d (D.str s')] [] k = M.spec_LinesOf_C s' (fun r => k [[D.sl true 1 r]] []) := by kernel_rfl
theorem LC.spec_LinesOf : loops (codeOf X0.P 12) = [loopCode X0.P 12 4] := by kernel_rfl
theorem C.spec_LinesOf : H.spec_LinesOf (M.spec_LinesOf) := by
  intro s' r h
  exact fn_sound (enc := fun r => ([[D.sl true 1 r]], [])) (K := K.spec_LinesOf) (L := L.spec_LinesOf) (by kernel_rfl) knil_ok (by rw [LC.spec_LinesOf]; exact (LOk.cons (LpOk.at (C.spec_LinesOf_l4) (fun _ => rfl)) LOk.nil)) (by rw [E.spec_LinesOf, M.spec_LinesOf_n] <;> rfl) h

/-! spec_IsBlank -/
def H.spec_IsBlank (o : Int → Option (Bool)) : Prop := ∀ (b : Int) (r : Bool), o b = some r → call X0 21 [V.d (D.int IntKind.i64 b)] [] = some ([[D.bool r]], [])
def P.spec_IsBlank (o : Int → Option (Bool)) (q : List V → List Cell → Res (List Row × List Cell)) (a : List V) (c : List Cell) : Res (List Row × List Cell) := match a, c with
  | [V.d (D.int IntKind.i64 b)], [] => ⟨Bool, o b, fun r => ([[D.bool r]], [])⟩
  | a, c => q a c
theorem P.spec_IsBlank_ok {o : Int → Option (Bool)} {q : List V → List Cell → Res (List Row × List Cell)} (h : H.spec_IsBlank o) (hq : FnOk X0 21 q) : FnOk X0 21 (P.spec_IsBlank o q) := by
  intro a c r hr
  unfold P.spec_IsBlank at hr
  split at hr
  · obtain ⟨x, hx, rfl⟩ := Res.val_some hr
    exact h _ x hx
  · exact hq _ _ _ hr
noncomputable def M.spec_IsBlank_C {R : Type} (b : Int) (k : Bool → Option R) : Option R :=
  bif b == 32 then (k true) else (k (b == 9))
noncomputable def M.spec_IsBlank (b : Int) : Option (Bool) := M.spec_IsBlank_C b some
theorem M.spec_IsBlank_n {R : Type} (b : Int) (k : Bool → Option R) : M.spec_IsBlank_C b k = (M.spec_IsBlank_C b some).bind k := by
  simp only [M.spec_IsBlank_C, bif_bind, bind_bind, some_bind, none_bind, sumE_bind, optE_bind, letE_bind]
noncomputable def K.spec_IsBlank : KonC := knil
noncomputable def L.spec_IsBlank : LoopC := lnil
theorem E.spec_IsBlank {R : Type} (b : Int) (k : List Row → List Cell → Option R) : bodyC X0 (K.spec_IsBlank) (L.spec_IsBlank) 21 [V.d (D.int IntKind.i64 b)] [] k = M.spec_IsBlank_C b (fun r => k [[D.bool r]] []) := by kernel_rfl
theorem LC.spec_IsBlank : loops (codeOf X0.P 21) = [] := by kernel_rfl
theorem C.spec_IsBlank : H.spec_IsBlank (M.spec_IsBlank) := by
  intro b r h
  exact fn_sound (enc := fun r => ([[D.bool r]], [])) (K := K.spec_IsBlank) (L := L.spec_IsBlank) (by kernel_rfl) knil_ok (by rw [LC.spec_IsBlank]; exact LOk.nil) (by rw [E.spec_IsBlank, M.spec_IsBlank_n] <;> rfl) h

/-! spec_l47End -/
def H.spec_l47End (o : List UInt8 → Option (Int)) : Prop := ∀ (s' : List UInt8) (r : Int), o s' = some r → call X0 13 [V.d (D.str s')] [] = some ([[D.int IntKind.i64 r]], [])
def P.spec_l47End (o : List UInt8 → Option (Int)) (q : List V → List Cell → Res (List Row × List Cell)) (a : List V) (c : List Cell) : Res (List Row × List Cell) := match a, c with
  | [V.d (D.str s')], [] => ⟨Int, o s', fun r => ([[D.int IntKind.i64 r]], [])⟩
  | a, c => q a c
theorem P.spec_l47End_ok {o : List UInt8 → Option (Int)} {q : List V → List Cell → Res (List Row × List Cell)} (h : H.spec_l47End o) (hq : FnOk X0 13 q) : FnOk X0 13 (P.spec_l47End o q) := by
  intro a c r hr
  unfold P.spec_l47End at hr
  split at hr
  · obtain ⟨x, hx, rfl⟩ := Res.val_some hr
    exact h _ x hx
  · exact hq _ _ _ hr
noncomputable def M.spec_l47End_l2_C {R : Type} (s' : List UInt8) (s : Int) (kn : Int → Option R) (ke : Int × Bool → Option R) : Option R := match s with
  | n' =>
    bif decide (n' > 0) then
     ((idx s' (IntKind.i64.wrap (n' - 1))).bind fun c11 =>
      ((M.spec_IsBlank (IntKind.i64.wrap (↑c11.toNat : Int))).bind fun r12 => (bif r12 then (kn (IntKind.i64.wrap (n' - 1))) else (ke ((n', r12)))))) else (ke ((n', false)))
noncomputable def M.spec_l47End_l2_b (s' : List UInt8) (s : Int) : Option ((Int) ⊕ (Int × Bool)) := M.spec_l47End_l2_C s' s (fun s => some (.inl s)) (fun t => some (.inr t))
noncomputable def M.spec_l47End_l2 (s' : List UInt8) (s : Int) : Option (Int × Bool) := loopM (M.spec_l47End_l2_b s') s
theorem M.spec_l47End_l2_n {R : Type} (s' : List UInt8) (s : Int) (kn : Int → Option R) (ke : Int × Bool → Option R) : M.spec_l47End_l2_C s' s kn ke = (M.spec_l47End_l2_b s' s).bind fun r => match r with | .inl s => kn s | .inr t => ke t := by
  skip
  all_goals
    simp only [M.spec_l47End_l2_b, M.spec_l47End_l2_C, bif_bind, bind_bind, some_bind, none_bind, sumE_bind, optE_bind, letE_bind]
def A.spec_l47End_l2 (s' : List UInt8) : Alt (Ex × St) := .leaf (Int × Bool) (fun t => (Ex.exit 0, { tm := [(0, V.d (D.str s')), (3, V.d (D.int IntKind.i64 t.fst)), (15, V.d (D.bool t.snd))], mem := [] }))
def T.spec_l47End_l2 (s' : List UInt8) (s : Int) : St := match s with
  | n' => { tm := [(0, V.d (D.str s')), (3, V.d (D.int IntKind.i64 n'))], mem := [] }
noncomputable def K.spec_l47End_l2 : KonC := (kcons 21 (P.spec_IsBlank M.spec_IsBlank pnil) knil)
noncomputable def L.spec_l47End_l2 : LoopC := lnil
theorem E.spec_l47End_l2 {R : Type} (s' : List UInt8) (s : Int) (k : Ex → St → Option R) : denC X0 (K.spec_l47End_l2) (L.spec_l47End_l2) 13 (loopCode X0.P 13 2) (T.spec_l47End_l2 s' s) k = M.spec_l47End_l2_C s' s (fun s => k .normal (T.spec_l47End_l2 s' s)) (fun t => (A.spec_l47End_l2 s').go t fun r => k r.1 r.2) := by
  skip
  all_goals kernel_rfl
theorem LC.spec_l47End_l2 : loops (loopCode X0.P 13 2) = [] := by kernel_rfl
noncomputable def PL.spec_l47End_l2 (S : St) : ResA (Ex × St) := match S with
  | { tm := [(0, V.d (D.str s')), (3, V.d (D.int IntKind.i64 n'))], mem := [] } => ⟨A.spec_l47End_l2 s', M.spec_l47End_l2 s' n'⟩
  | _ => .none
theorem C.spec_l47End_l2 : LpOk X0 13 2 (loopCode X0.P 13 2) (PL.spec_l47End_l2) := by
  refine ⟨by kernel_rfl, fun S r hr => ?_⟩
  unfold PL.spec_l47End_l2 at hr
  split at hr
  · obtain ⟨x, hx, rfl⟩ := ResA.val_some hr
    exact lp_sound (K := K.spec_l47End_l2) (L := L.spec_l47End_l2) (b := M.spec_l47End_l2_b _) (tm := T.spec_l47End_l2 _) (tx := (A.spec_l47End_l2 _).enc) (kcons_ok (P.spec_IsBlank_ok C.spec_IsBlank pnil_ok) knil_ok) (by rw [LC.spec_l47End_l2]; exact LOk.nil) (fun s => by rw [E.spec_l47End_l2, M.spec_l47End_l2_n]; congr 1; funext r; cases r <;> first | rfl | exact Alt.go_eq _ _ _) (by intro t; intro h; cases h) hx (s := _)
  · cases hr
noncomputable def M.spec_l47End_C {R : Type} (s' : List UInt8) (k : Int → Option R) : Option R :=
  (M.spec_l47End_l2 s' ((↑s'.length : Int))).bind fun t13 => (k t13.fst)
noncomputable def M.spec_l47End (s' : List UInt8) : Option (Int) := M.spec_l47End_C s' some
theorem M.spec_l47End_n {R : Type} (s' : List UInt8) (k : Int → Option R) : M.spec_l47End_C s' k = (M.spec_l47End_C s' some).bind k := by
  simp only [M.spec_l47End_C, bif_bind, bind_bind, some_bind, none_bind, sumE_bind, optE_bind, letE_bind]
noncomputable def K.spec_l47End : KonC := knil
noncomputable def L.spec_l47End : LoopC := (lcons 2 (PL.spec_l47End_l2) lnil)
theorem E.spec_l47End {R : Type} (s' : List UInt8) (k : List Row → List Cell → Option R) : bodyC X0 (K.spec_l47End) (L.spec_l47End) 13 [V.d (D.str s')] [] k = M.spec_l47End_C s' (fun r => k [[D.int IntKind.i64 r]] []) := by kernel_rfl
theorem LC.spec_l47End : loops (codeOf X0.P 13) = [loopCode X0.P 13 2] := by kernel_rfl
theorem C.spec_l47End : H.spec_l47End (M.spec_l47End) := by
  intro s' r h
  exact fn_sound (enc := fun r => ([[D.int IntKind.i64 r]], [])) (K := K.spec_l47End) (L := L.spec_l47End) (by kernel_rfl) knil_ok (by rw [LC.spec_l47End]; exact (LOk.cons (LpOk.at (C.spec_l47End_l2) (fun _ => rfl)) LOk.nil)) (by rw [E.spec_l47End, M.spec_l47End_n] <;> rfl) h

/-! spec_Trimmed -/
def H.spec_Trimmed (o : List UInt8 → Option (List UInt8)) : Prop := ∀ (s' : List UInt8) (r : List UInt8), o s' = some r → call X0 5 [V.d (D.str s')] [] = some ([[D.str r]], [])
def P.spec_Trimmed (o : List UInt8 → Option (List UInt8)) (q : List V → List Cell → Res (List Row × List Cell)) (a : List V) (c : List Cell) : Res (List Row × List Cell) := match a, c with
  | [V.d (D.str s')], [] => ⟨List UInt8, o s', fun r => ([[D.str r]], [])⟩
  | a, c => q a c
theorem P.spec_Trimmed_ok {o : List UInt8 → Option (List UInt8)} {q : List V → List Cell → Res (List Row × List Cell)} (h : H.spec_Trimmed o) (hq : FnOk X0 5 q) : FnOk X0 5 (P.spec_Trimmed o q) := by
  intro a c r hr
  unfold P.spec_Trimmed at hr
  split at hr
  · obtain ⟨x, hx, rfl⟩ := Res.val_some hr
    exact h _ x hx
  · exact hq _ _ _ hr
noncomputable def M.spec_Trimmed_l5_C {R : Type} (x' : List Row) (s : List UInt8 × List UInt8 × Int) (kn : List UInt8 × List UInt8 × Int → Option R) (ke : List UInt8 × List UInt8 × Int × Bool → Option R) : Option R := match s with
  | (out', last, i) =>
    bif decide (i < (↑x'.length : Int)) then
     ((idx x' i).bind fun row5 =>
      (x'[i.toNat]?.bind fun row6 =>
       ((cStr row6 0).bind fun s7 =>
        ((idx x' i).bind fun row8 =>
         (x'[i.toNat]?.bind fun row9 =>
          ((cStr row9 0).bind fun s10 =>
           ((M.spec_l47End s10).bind fun r14 =>
            ((cut s7 0 r14).bind fun s15 =>
             (bif s15 == [] then
              (bif last == [] then (kn ((out', last, IntKind.i64.wrap (i + 1)))) else
               (bif (out'.length + s15.length).ble 9223372036854775807 then
                (bif ((out' ++ s15).length + 1).ble 9223372036854775807 then (kn ((out' ++ s15 ++ [10], s15, IntKind.i64.wrap (i + 1)))) else none) else none)) else
              (bif (out'.length + s15.length).ble 9223372036854775807 then
               (bif ((out' ++ s15).length + 1).ble 9223372036854775807 then (kn ((out' ++ s15 ++ [10], s15, IntKind.i64.wrap (i + 1)))) else none) else none)))))))))) else (ke ((out', last, i, decide (i < (↑x'.length : Int)))))
noncomputable def M.spec_Trimmed_l5_b (x' : List Row) (s : List UInt8 × List UInt8 × Int) : Option ((List UInt8 × List UInt8 × Int) ⊕ (List UInt8 × List UInt8 × Int × Bool)) := M.spec_Trimmed_l5_C x' s (fun s => some (.inl s)) (fun t => some (.inr t))
noncomputable def M.spec_Trimmed_l5 (x' : List Row) (s : List UInt8 × List UInt8 × Int) : Option (List UInt8 × List UInt8 × Int × Bool) := loopM (M.spec_Trimmed_l5_b x') s
theorem M.spec_Trimmed_l5_n {R : Type} (x' : List Row) (s : List UInt8 × List UInt8 × Int) (kn : List UInt8 × List UInt8 × Int → Option R) (ke : List UInt8 × List UInt8 × Int × Bool → Option R) : M.spec_Trimmed_l5_C x' s kn ke = (M.spec_Trimmed_l5_b x' s).bind fun r => match r with | .inl s => kn s | .inr t => ke t := by
  obtain ⟨out', last, i⟩ := s
  all_goals
    simp only [M.spec_Trimmed_l5_b, M.spec_Trimmed_l5_C, bif_bind, bind_bind, some_bind, none_bind, sumE_bind, optE_bind, letE_bind]
def A.spec_Trimmed_l5 (x' : List Row) : Alt (Ex × St) := .leaf (List UInt8 × List UInt8 × Int × Bool) (fun t => (Ex.exit 0, { tm := [(3, V.d (D.str t.fst)), (4, V.d (D.str t.snd.fst)), (5, V.own 300000 0), (6, V.d (D.int IntKind.i64 t.snd.snd.fst)), (13, V.d (D.bool t.snd.snd.snd))], mem := [(300000, Cell.arr false true 0 1 x')] }))
def T.spec_Trimmed_l5 (x' : List Row) (s : List UInt8 × List UInt8 × Int) : St := match s with
  | (out', last, i) => { tm := [(3, V.d (D.str out')), (4, V.d (D.str last)), (5, V.own 300000 0), (6, V.d (D.int IntKind.i64 i))], mem := [(300000, Cell.arr false true 0 1 x')] }
noncomputable def K.spec_Trimmed_l5 : KonC := (kcons 13 (P.spec_l47End M.spec_l47End pnil) knil)
noncomputable def L.spec_Trimmed_l5 : LoopC := lnil
theorem E.spec_Trimmed_l5 {R : Type} (x' : List Row) (s : List UInt8 × List UInt8 × Int) (k : Ex → St → Option R) : denC X0 (K.spec_Trimmed_l5) (L.spec_Trimmed_l5) 5 (loopCode X0.P 5 5) (T.spec_Trimmed_l5 x' s) k = M.spec_Trimmed_l5_C x' s (fun s => k .normal (T.spec_Trimmed_l5 x' s)) (fun t => (A.spec_Trimmed_l5 x').go t fun r => k r.1 r.2) := by
  obtain ⟨out', last, i⟩ := s
  all_goals kernel_rfl
theorem LC.spec_Trimmed_l5 : loops (loopCode X0.P 5 5) = [] := by kernel_rfl
noncomputable def PL.spec_Trimmed_l5 (S : St) : ResA (Ex × St) := match S with
  | { tm := [(3, V.d (D.str out')), (4, V.d (D.str last)), (5, V.own 300000 0), (6, V.d (D.int IntKind.i64 i))], mem := [(300000, Cell.arr false true 0 1 x')] } => ⟨A.spec_Trimmed_l5 x', M.spec_Trimmed_l5 x' ((out', last, i))⟩
  | _ => .none
theorem C.spec_Trimmed_l5 : LpOk X0 5 5 (loopCode X0.P 5 5) (PL.spec_Trimmed_l5) := by
  refine ⟨by kernel_rfl, fun S r hr => ?_⟩
  unfold PL.spec_Trimmed_l5 at hr
  split at hr
  · obtain ⟨x, hx, rfl⟩ := ResA.val_some hr
    exact lp_sound (K := K.spec_Trimmed_l5) (L := L.spec_Trimmed_l5) (b := M.spec_Trimmed_l5_b _) (tm := T.spec_Trimmed_l5 _) (tx := (A.spec_Trimmed_l5 _).enc) (kcons_ok (P.spec_l47End_ok C.spec_l47End pnil_ok) knil_ok) (by rw [LC.spec_Trimmed_l5]; exact LOk.nil) (fun s => by rw [E.spec_Trimmed_l5, M.spec_Trimmed_l5_n]; congr 1; funext r; cases r <;> first | rfl | exact Alt.go_eq _ _ _) (by intro t; intro h; cases h) hx (s := (_, _, _))
  · cases hr
noncomputable def M.spec_Trimmed_C {R : Type} (s' : List UInt8) (k : List UInt8 → Option R) : Option R :=
  (M.spec_LinesOf s').bind fun r4 => ((M.spec_Trimmed_l5 r4 (([], [], 0))).bind fun t16 => (k t16.fst))
noncomputable def M.spec_Trimmed (s' : List UInt8) : Option (List UInt8) := M.spec_Trimmed_C s' some
theorem M.spec_Trimmed_n {R : Type} (s' : List UInt8) (k : List UInt8 → Option R) : M.spec_Trimmed_C s' k = (M.spec_Trimmed_C s' some).bind k := by
  simp only [M.spec_Trimmed_C, bif_bind, bind_bind, some_bind, none_bind, sumE_bind, optE_bind, letE_bind]
noncomputable def K.spec_Trimmed : KonC := (kcons 12 (P.spec_LinesOf M.spec_LinesOf pnil) knil)
noncomputable def L.spec_Trimmed : LoopC := (lcons 5 (PL.spec_Trimmed_l5) lnil)
theorem E.spec_Trimmed {R : Type} (s' : List UInt8) (k : List Row → List Cell → Option R) : bodyC X0 (K.spec_Trimmed) (L.spec_Trimmed) 5 [V.d (D.str s')] [] k = M.spec_Trimmed_C s' (fun r => k [[D.str r]] []) := by kernel_rfl
theorem LC.spec_Trimmed : loops (codeOf X0.P 5) = [loopCode X0.P 5 5] := by kernel_rfl
theorem C.spec_Trimmed : H.spec_Trimmed (M.spec_Trimmed) := by
  intro s' r h
  exact fn_sound (enc := fun r => ([[D.str r]], [])) (K := K.spec_Trimmed) (L := L.spec_Trimmed) (by kernel_rfl) (kcons_ok (P.spec_LinesOf_ok C.spec_LinesOf pnil_ok) knil_ok) (by rw [LC.spec_Trimmed]; exact (LOk.cons (LpOk.at (C.spec_Trimmed_l5) (fun _ => rfl)) LOk.nil)) (by rw [E.spec_Trimmed, M.spec_Trimmed_n] <;> rfl) h

/-! strings_Split (a primitive) -/
def H.strings_Split (o : List UInt8 → List UInt8 → Option (List Row)) : Prop := ∀ (s' : List UInt8) (sep : List UInt8) (r : List Row), o s' sep = some r → call X0 22 [V.d (D.str s'), V.d (D.str sep)] [] = some ([[D.sl true 1 r]], [])
def P.strings_Split (o : List UInt8 → List UInt8 → Option (List Row)) (q : List V → List Cell → Res (List Row × List Cell)) (a : List V) (c : List Cell) : Res (List Row × List Cell) := match a, c with
  | [V.d (D.str s'), V.d (D.str sep)], [] => ⟨List Row, o s' sep, fun r => ([[D.sl true 1 r]], [])⟩
  | a, c => q a c
theorem P.strings_Split_ok {o : List UInt8 → List UInt8 → Option (List Row)} {q : List V → List Cell → Res (List Row × List Cell)} (h : H.strings_Split o) (hq : FnOk X0 22 q) : FnOk X0 22 (P.strings_Split o q) := by
  intro a c r hr
  unfold P.strings_Split at hr
  split at hr
  · obtain ⟨x, hx, rfl⟩ := Res.val_some hr
    exact h _ _ x hx
  · exact hq _ _ _ hr
theorem C.strings_Split : H.strings_Split M.strings_Split := fun s' sep r h => call_of_prim (p := Prim.strings_Split) (by kernel_rfl) (by show Option.map _ (M.strings_Split s' sep) = _; rw [h]; rfl)

/-! impl_LinesOf -/
def H.impl_LinesOf (o : List UInt8 → Option (List Row)) : Prop := ∀ (s' : List UInt8) (r : List Row), o s' = some r → call X0 14 [V.d (D.str s')] [] = some ([[D.sl true 1 r]], [])
def P.impl_LinesOf (o : List UInt8 → Option (List Row)) (q : List V → List Cell → Res (List Row × List Cell)) (a : List V) (c : List Cell) : Res (List Row × List Cell) := match a, c with
  | [V.d (D.str s')], [] => ⟨List Row, o s', fun r => ([[D.sl true 1 r]], [])⟩
  | a, c => q a c
theorem P.impl_LinesOf_ok {o : List UInt8 → Option (List Row)} {q : List V → List Cell → Res (List Row × List Cell)} (h : H.impl_LinesOf o) (hq : FnOk X0 14 q) : FnOk X0 14 (P.impl_LinesOf o q) := by
  intro a c r hr
  unfold P.impl_LinesOf at hr
  split at hr
  · obtain ⟨x, hx, rfl⟩ := Res.val_some hr
    exact h _ x hx
  · exact hq _ _ _ hr
noncomputable def M.impl_LinesOf_C {R : Type} (s' : List UInt8) (k : List Row → Option R) : Option R :=
  (M.strings_Split s' [10]).bind fun r18 =>
   ((idx r18 (IntKind.i64.wrap ((↑r18.length : Int) - 1))).bind fun row19 =>
    ((r18[(IntKind.i64.wrap ((↑r18.length : Int) - 1)).toNat]?).bind fun row20 =>
     ((cStr row20 0).bind fun s21 =>
      (bif s21 == [] then
       (bif decide (0 ≤ IntKind.i64.wrap ((↑r18.length : Int) - 1)) && decide (IntKind.i64.wrap ((↑r18.length : Int) - 1) ≤ (↑r18.length : Int)) then
        (bif flatRows (List.take (IntKind.i64.wrap ((↑r18.length : Int) - 1)).toNat r18) then (k (List.take (IntKind.i64.wrap ((↑r18.length : Int) - 1)).toNat r18)) else none) else none) else (bif flatRows r18 then (k r18) else none)))))
noncomputable def M.impl_LinesOf (s' : List UInt8) : Option (List Row) := M.impl_LinesOf_C s' some
theorem M.impl_LinesOf_n {R : Type} (s' : List UInt8) (k : List Row → Option R) : M.impl_LinesOf_C s' k = (M.impl_LinesOf_C s' some).bind k := by
  simp only [M.impl_LinesOf_C, bif_bind, bind_bind, some_bind, none_bind, sumE_bind, optE_bind, letE_bind]
noncomputable def K.impl_LinesOf : KonC := (kcons 22 (P.strings_Split M.strings_Split pnil) knil)
noncomputable def L.impl_LinesOf : LoopC := lnil
theorem E.impl_LinesOf {R : Type} (s' : List UInt8) (k : List Row → List Cell → Option R) : bodyC X0 (K.impl_LinesOf) (L.impl_LinesOf) 14 [V.d (D.str s')] [] k = M.impl_LinesOf_C s' (fun r => k [[D.sl true 1 r]] []) := by kernel_rfl
theorem LC.impl_LinesOf : loops (codeOf X0.P 14) = [] := by kernel_rfl
theorem C.impl_LinesOf : H.impl_LinesOf (M.impl_LinesOf) := by
  intro s' r h
  exact fn_sound (enc := fun r => ([[D.sl true 1 r]], [])) (K := K.impl_LinesOf) (L := L.impl_LinesOf) (by kernel_rfl) (kcons_ok (P.strings_Split_ok C.strings_Split pnil_ok) knil_ok) (by rw [LC.impl_LinesOf]; exact LOk.nil) (by rw [E.impl_LinesOf, M.impl_LinesOf_n] <;> rfl) h

/-! strings_TrimRight (a primitive) -/
def H.strings_TrimRight (o : List UInt8 → List UInt8 → Option (List UInt8)) : Prop := ∀ (s' : List UInt8) (cutset : List UInt8) (r : List UInt8), o s' cutset = some r → call X0 15 [V.d (D.str s'), V.d (D.str cutset)] [] = some ([[D.str r]], [])
def P.strings_TrimRight (o : List UInt8 → List UInt8 → Option (List UInt8)) (q : List V → List Cell → Res (List Row × List Cell)) (a : List V) (c : List Cell) : Res (List Row × List Cell) := match a, c with
  | [V.d (D.str s'), V.d (D.str cutset)], [] => ⟨List UInt8, o s' cutset, fun r => ([[D.str r]], [])⟩
  | a, c => q a c
theorem P.strings_TrimRight_ok {o : List UInt8 → List UInt8 → Option (List UInt8)} {q : List V → List Cell → Res (List Row × List Cell)} (h : H.strings_TrimRight o) (hq : FnOk X0 15 q) : FnOk X0 15 (P.strings_TrimRight o q) := by
  intro a c r hr
  unfold P.strings_TrimRight at hr
  split at hr
  · obtain ⟨x, hx, rfl⟩ := Res.val_some hr
    exact h _ _ x hx
  · exact hq _ _ _ hr
theorem C.strings_TrimRight : H.strings_TrimRight M.strings_TrimRight := fun s' cutset r h => call_of_prim (p := Prim.strings_TrimRight) (by kernel_rfl) (by show Option.map _ (M.strings_TrimRight s' cutset) = _; rw [h]; rfl)

/-! impl_Trimmed -/
def H.impl_Trimmed (o : List UInt8 → Option (List UInt8)) : Prop := ∀ (s' : List UInt8) (r : List UInt8), o s' = some r → call X0 6 [V.d (D.str s')] [] = some ([[D.str r]], [])
def P.impl_Trimmed (o : List UInt8 → Option (List UInt8)) (q : List V → List Cell → Res (List Row × List Cell)) (a : List V) (c : List Cell) : Res (List Row × List Cell) := match a, c with
  | [V.d (D.str s')], [] => ⟨List UInt8, o s', fun r => ([[D.str r]], [])⟩
  | a, c => q a c
theorem P.impl_Trimmed_ok {o : List UInt8 → Option (List UInt8)} {q : List V → List Cell → Res (List Row × List Cell)} (h : H.impl_Trimmed o) (hq : FnOk X0 6 q) : FnOk X0 6 (P.impl_Trimmed o q) := by
  intro a c r hr
  unfold P.impl_Trimmed at hr
  split at hr
  · obtain ⟨x, hx, rfl⟩ := Res.val_some hr
    exact h _ x hx
  · exact hq _ _ _ hr
noncomputable def M.impl_Trimmed_l3_C {R : Type} (v9 : Int) (x' : List Row) (s : List UInt8 × List UInt8 × Int) (kn : List UInt8 × List UInt8 × Int → Option R) (ke : List UInt8 × List UInt8 × Int × Bool → Option R) : Option R := match s with
  | (out', before, v10) =>
    bif decide (v10 < v9) then
     ((idx x' v10).bind fun row23 =>
      (x'[v10.toNat]?.bind fun row24 =>
       ((cStr row24 0).bind fun s25 =>
        ((M.strings_TrimRight s25 [32, 9]).bind fun r26 =>
         (bif !r26 == [] then
          (bif (r26.length + 1).ble 9223372036854775807 then
           (bif (out'.length + (r26 ++ [10]).length).ble 9223372036854775807 then (kn ((out' ++ (r26 ++ [10]), r26, IntKind.i64.wrap (v10 + 1)))) else none) else none) else
          (bif !before == [] then
           (bif (r26.length + 1).ble 9223372036854775807 then
            (bif (out'.length + (r26 ++ [10]).length).ble 9223372036854775807 then (kn ((out' ++ (r26 ++ [10]), r26, IntKind.i64.wrap (v10 + 1)))) else none) else none) else (kn ((out', r26, IntKind.i64.wrap (v10 + 1)))))))))) else (ke ((out', before, v10, decide (v10 < v9))))
noncomputable def M.impl_Trimmed_l3_b (v9 : Int) (x' : List Row) (s : List UInt8 × List UInt8 × Int) : Option ((List UInt8 × List UInt8 × Int) ⊕ (List UInt8 × List UInt8 × Int × Bool)) := M.impl_Trimmed_l3_C v9 x' s (fun s => some (.inl s)) (fun t => some (.inr t))
noncomputable def M.impl_Trimmed_l3 (v9 : Int) (x' : List Row) (s : List UInt8 × List UInt8 × Int) : Option (List UInt8 × List UInt8 × Int × Bool) := loopM (M.impl_Trimmed_l3_b v9 x') s
theorem M.impl_Trimmed_l3_n {R : Type} (v9 : Int) (x' : List Row) (s : List UInt8 × List UInt8 × Int) (kn : List UInt8 × List UInt8 × Int → Option R) (ke : List UInt8 × List UInt8 × Int × Bool → Option R) : M.impl_Trimmed_l3_C v9 x' s kn ke = (M.impl_Trimmed_l3_b v9 x' s).bind fun r => match r with | .inl s => kn s | .inr t => ke t := by
  obtain ⟨out', before, v10⟩ := s
  all_goals
    simp only [M.impl_Trimmed_l3_b, M.impl_Trimmed_l3_C, bif_bind, bind_bind, some_bind, none_bind, sumE_bind, optE_bind, letE_bind]
def A.impl_Trimmed_l3 (v9 : Int) (x' : List Row) : Alt (Ex × St) := .leaf (List UInt8 × List UInt8 × Int × Bool) (fun t => (Ex.exit 0, { tm := [(3, V.d (D.str t.fst)), (4, V.d (D.str t.snd.fst)), (8, V.own 300000 0), (9, V.d (D.int IntKind.i64 v9)), (10, V.d (D.int IntKind.i64 t.snd.snd.fst)), (11, V.d (D.bool t.snd.snd.snd))], mem := [(300000, Cell.arr false true 0 1 x')] }))
def T.impl_Trimmed_l3 (v9 : Int) (x' : List Row) (s : List UInt8 × List UInt8 × Int) : St := match s with
  | (out', before, v10) => { tm := [(3, V.d (D.str out')), (4, V.d (D.str before)), (8, V.own 300000 0), (9, V.d (D.int IntKind.i64 v9)), (10, V.d (D.int IntKind.i64 v10))], mem := [(300000, Cell.arr false true 0 1 x')] }
noncomputable def K.impl_Trimmed_l3 : KonC := (kcons 15 (P.strings_TrimRight M.strings_TrimRight pnil) knil)
noncomputable def L.impl_Trimmed_l3 : LoopC := lnil
theorem E.impl_Trimmed_l3 {R : Type} (v9 : Int) (x' : List Row) (s : List UInt8 × List UInt8 × Int) (k : Ex → St → Option R) : denC X0 (K.impl_Trimmed_l3) (L.impl_Trimmed_l3) 6 (loopCode X0.P 6 3) (T.impl_Trimmed_l3 v9 x' s) k = M.impl_Trimmed_l3_C v9 x' s (fun s => k .normal (T.impl_Trimmed_l3 v9 x' s)) (fun t => (A.impl_Trimmed_l3 v9 x').go t fun r => k r.1 r.2) := by
  obtain ⟨out', before, v10⟩ := s
  all_goals kernel_rfl
theorem LC.impl_Trimmed_l3 : loops (loopCode X0.P 6 3) = [] := by kernel_rfl
noncomputable def PL.impl_Trimmed_l3 (S : St) : ResA (Ex × St) := match S with
  | { tm := [(3, V.d (D.str out')), (4, V.d (D.str before)), (8, V.own 300000 0), (9, V.d (D.int IntKind.i64 v9)), (10, V.d (D.int IntKind.i64 v10))], mem := [(300000, Cell.arr false true 0 1 x')] } => ⟨A.impl_Trimmed_l3 v9 x', M.impl_Trimmed_l3 v9 x' ((out', before, v10))⟩
  | _ => .none
theorem C.impl_Trimmed_l3 : LpOk X0 6 3 (loopCode X0.P 6 3) (PL.impl_Trimmed_l3) := by
  refine ⟨by kernel_rfl, fun S r hr => ?_⟩
  unfold PL.impl_Trimmed_l3 at hr
  split at hr
  · obtain ⟨x, hx, rfl⟩ := ResA.val_some hr
    exact lp_sound (K := K.impl_Trimmed_l3) (L := L.impl_Trimmed_l3) (b := M.impl_Trimmed_l3_b _ _) (tm := T.impl_Trimmed_l3 _ _) (tx := (A.impl_Trimmed_l3 _ _).enc) (kcons_ok (P.strings_TrimRight_ok C.strings_TrimRight pnil_ok) knil_ok) (by rw [LC.impl_Trimmed_l3]; exact LOk.nil) (fun s => by rw [E.impl_Trimmed_l3, M.impl_Trimmed_l3_n]; congr 1; funext r; cases r <;> first | rfl | exact Alt.go_eq _ _ _) (by intro t; intro h; cases h) hx (s := (_, _, _))
  · cases hr
noncomputable def M.impl_Trimmed_C {R : Type} (s' : List UInt8) (k : List UInt8 → Option R) : Option R :=
  (M.impl_LinesOf s').bind fun r22 =>
   ((M.impl_Trimmed_l3 ((↑r22.length : Int)) r22 (([], [], 0))).bind fun t27 => (k t27.fst))
noncomputable def M.impl_Trimmed (s' : List UInt8) : Option (List UInt8) := M.impl_Trimmed_C s' some
theorem M.impl_Trimmed_n {R : Type} (s' : List UInt8) (k : List UInt8 → Option R) : M.impl_Trimmed_C s' k = (M.impl_Trimmed_C s' some).bind k := by
  simp only [M.impl_Trimmed_C, bif_bind, bind_bind, some_bind, none_bind, sumE_bind, optE_bind, letE_bind]
noncomputable def K.impl_Trimmed : KonC := (kcons 14 (P.impl_LinesOf M.impl_LinesOf pnil) knil)
noncomputable def L.impl_Trimmed : LoopC := (lcons 3 (PL.impl_Trimmed_l3) lnil)
theorem E.impl_Trimmed {R : Type} (s' : List UInt8) (k : List Row → List Cell → Option R) : bodyC X0 (K.impl_Trimmed) (L.impl_Trimmed) 6 [V.d (D.str s')] [] k = M.impl_Trimmed_C s' (fun r => k [[D.str r]] []) := by kernel_rfl
theorem LC.impl_Trimmed : loops (codeOf X0.P 6) = [loopCode X0.P 6 3] := by kernel_rfl
theorem C.impl_Trimmed : H.impl_Trimmed (M.impl_Trimmed) := by
  intro s' r h
  exact fn_sound (enc := fun r => ([[D.str r]], [])) (K := K.impl_Trimmed) (L := L.impl_Trimmed) (by kernel_rfl) (kcons_ok (P.impl_LinesOf_ok C.impl_LinesOf pnil_ok) knil_ok) (by rw [LC.impl_Trimmed]; exact (LOk.cons (LpOk.at (C.impl_Trimmed_l3) (fun _ => rfl)) LOk.nil)) (by rw [E.impl_Trimmed, M.impl_Trimmed_n] <;> rfl) h

/-! laws_FnExactTrimmed -/
def H.laws_FnExactTrimmed (o : List UInt8 → Option (Bool)) : Prop := ∀ (aS : List UInt8) (r : Bool), o aS = some r → call X0 3 [V.d (D.str aS)] [] = some ([[D.bool r]], [])
def P.laws_FnExactTrimmed (o : List UInt8 → Option (Bool)) (q : List V → List Cell → Res (List Row × List Cell)) (a : List V) (c : List Cell) : Res (List Row × List Cell) := match a, c with
  | [V.d (D.str aS)], [] => ⟨Bool, o aS, fun r => ([[D.bool r]], [])⟩
  | a, c => q a c
theorem P.laws_FnExactTrimmed_ok {o : List UInt8 → Option (Bool)} {q : List V → List Cell → Res (List Row × List Cell)} (h : H.laws_FnExactTrimmed o) (hq : FnOk X0 3 q) : FnOk X0 3 (P.laws_FnExactTrimmed o q) := by
  intro a c r hr
  unfold P.laws_FnExactTrimmed at hr
  split at hr
  · obtain ⟨x, hx, rfl⟩ := Res.val_some hr
    exact h _ x hx
  · exact hq _ _ _ hr
noncomputable def M.laws_FnExactTrimmed_C {R : Type} (aS : List UInt8) (k : Bool → Option R) : Option R :=
  bif decide ((↑aS.length : Int) > 1048576) then (k true) else
   ((M.spec_Trimmed aS).bind fun r17 => ((M.impl_Trimmed aS).bind fun r28 => (bif !r28 == r17 then (k false) else (k true))))
noncomputable def M.laws_FnExactTrimmed (aS : List UInt8) : Option (Bool) := M.laws_FnExactTrimmed_C aS some
theorem M.laws_FnExactTrimmed_n {R : Type} (aS : List UInt8) (k : Bool → Option R) : M.laws_FnExactTrimmed_C aS k = (M.laws_FnExactTrimmed_C aS some).bind k := by
  simp only [M.laws_FnExactTrimmed_C, bif_bind, bind_bind, some_bind, none_bind, sumE_bind, optE_bind, letE_bind]
noncomputable def K.laws_FnExactTrimmed : KonC := (kcons 5 (P.spec_Trimmed M.spec_Trimmed pnil) (kcons 6 (P.impl_Trimmed M.impl_Trimmed pnil) knil))
noncomputable def L.laws_FnExactTrimmed : LoopC := lnil
theorem E.laws_FnExactTrimmed {R : Type} (aS : List UInt8) (k : List Row → List Cell → Option R) : bodyC X0 (K.laws_FnExactTrimmed) (L.laws_FnExactTrimmed) 3 [V.d (D.str aS)] [] k = M.laws_FnExactTrimmed_C aS (fun r => k [[D.bool r]] []) := by kernel_rfl
theorem LC.laws_FnExactTrimmed : loops (codeOf X0.P 3) = [] := by kernel_rfl
theorem C.laws_FnExactTrimmed : H.laws_FnExactTrimmed (M.laws_FnExactTrimmed) := by
  intro aS r h
  exact fn_sound (enc := fun r => ([[D.bool r]], [])) (K := K.laws_FnExactTrimmed) (L := L.laws_FnExactTrimmed) (by kernel_rfl) (kcons_ok (P.spec_Trimmed_ok C.spec_Trimmed pnil_ok) (kcons_ok (P.impl_Trimmed_ok C.impl_Trimmed pnil_ok) knil_ok)) (by rw [LC.laws_FnExactTrimmed]; exact LOk.nil) (by rw [E.laws_FnExactTrimmed, M.laws_FnExactTrimmed_n] <;> rfl) h


end Go.Proofs.YtodbelembghegaaDoor
