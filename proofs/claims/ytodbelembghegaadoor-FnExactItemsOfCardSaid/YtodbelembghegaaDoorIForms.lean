/-
  The plain forms of the functions, and that they are what the functions come to.
-/
import Derived.Test.YtodbelembghegaaDoorVm4
import Derived.Test.YtodbelembghegaaDoorProg
import Derived.Test.YtodbelembghegaaDoorIPrim
namespace Go.Proofs.YtodbelembghegaaDoor
open Go Go.Vm
set_option linter.unusedVariables false
set_option linter.unusedSimpArgs false
def kp3 : List (List Nat) := [[0], [0, 7], [2], [0, 3], [3, 4], [14], [2], [2]]
def kp4 : List (List Nat) := [[0], [0, 3], [0, 3], [0, 11], [2], [0, 4], [0, 4, 5], [0, 4, 5, 6], [0, 5, 21], [2], [26], [2], [2]]
def kp5 : List (List Nat) := [[0], [0, 3], [0, 3, 4], [3, 4, 5], [3, 4, 5, 6], [3, 4, 5, 6, 13], [3, 4, 5, 6], [3, 4, 5, 6, 7], [3, 4, 5, 6, 7, 31], [3, 5, 6, 7], [3, 4, 5, 6], [2]]
def kp6 : List (List Nat) := [[0], [0, 3, 4], [3, 4, 8, 9, 10], [3, 4, 8, 9, 10, 11], [3, 4, 6, 8, 9, 10], [3, 4, 6, 8, 9, 10], [3, 6, 8, 9, 10, 21], [3, 6, 8, 9, 10], [3, 4, 8, 9, 10], [3, 4, 8, 9, 10], [2]]
def kp7 : List (List Nat) := [[0, 1], [0, 1], [0, 1, 11], [4], [0, 1, 5], [0, 1, 5, 15], [0, 1, 5], [0, 1, 5], [0, 1, 5, 25], [4], [4]]
def kp8 : List (List Nat) := [[0], [0, 5], [2], [2]]
def kp9 : List (List Nat) := [[0], [0, 3], [0, 3, 4], [0, 3, 4, 11], [0, 3, 4], [0, 3, 4], [2]]
def kp10 : List (List Nat) := [[0], [0, 5], [2], [2]]
def kp11 : List (List Nat) := [[0, 1], [0, 1, 10], [4], [0, 1, 5], [0, 1, 5, 14], [0, 1, 5], [0, 1, 5, 26], [4], [4]]
def kp12 : List (List Nat) := [[0], [0, 3], [0, 3, 4], [0, 3, 4, 5], [0, 3, 4, 5, 10], [0, 3, 4, 5], [0, 3, 4, 5, 16], [0, 3, 5], [0, 3, 4, 5], [0, 3, 4, 29], [3], [2]]
def kp13 : List (List Nat) := [[0], [0, 3], [0, 3, 15], [0, 3], [2]]
def kp14 : List (List Nat) := [[0], [3], [3, 12], [3], [2]]
def kp15 : List (List Nat) := [[0, 1], [0, 1, 12], [4], [0, 1, 21], [4], [0, 1, 5, 6], [0, 1, 5, 31], [4], [4]]
def kp16 : List (List Nat) := [[1, 2], [1, 2], [1, 2, 11], [4], [1, 2], [1, 2, 18], [4], [1], [1, 24], [4], [4]]
def kp17 : List (List Nat) := [[0], [2]]
def kp18 : List (List Nat) := [[1, 2], [1, 2, 3], [1, 2, 3], [1, 2, 3], [1, 2, 3], [1, 2, 3], [2, 3], [2]]
def kp19 : List (List Nat) := [[0], [2]]
def kp20 : List (List Nat) := [[2, 3], [2, 3, 9], [4], [2, 3, 14], [4], [2, 3, 19], [4], [2, 3, 24], [4], [30], [4], [4]]
def kp21 : List (List Nat) := [[0], [2]]
def kp22 : List (List Nat) := [[0, 1], [4]]
def kp23 : List (List Nat) := [[0, 1], [0, 1, 16], [0, 1], [4]]
def kp24 : List (List Nat) := [[0, 2], [0, 2, 4], [0, 2, 4, 9], [0, 2, 4], [0, 2, 4, 5], [0, 2, 4, 5, 16], [2, 3], [0, 2, 4], [2, 3]]
def kp25 : List (List Nat) := [[0, 1], [0, 1, 7], [0, 1, 15], [0, 1], [4]]
def kp26 : List (List Nat) := [[0, 1], [0, 1, 9], [0, 1, 5, 6], [0, 1, 5, 6, 17], [0, 1, 5, 6], [0, 1, 6, 26], [0, 1], [4]]
def kp27 : List (List Nat) := [[0, 1], [1], [1, 10], [4], [4]]
def kp28 : List (List Nat) := [[0], [0, 12], [2], [0, 3], [0, 3, 16], [0, 3], [0, 3, 24], [2], [0, 3, 4], [0, 3, 4, 32], [0, 3, 4], [0, 3, 4, 53], [2], [2]]
def kp29 : List (List Nat) := [[0], [0, 3], [0, 3, 4], [0, 3, 4, 11], [0, 3, 4], [0, 3, 4], [2]]
def kp30 : List (List Nat) := [[0], [0, 9], [2], [0, 10, 11, 12], [0, 10, 11, 12, 13], [0, 4, 10, 11, 12], [0, 4, 10, 11, 12, 18], [2], [0, 4, 10, 11, 12, 20, 21, 22], [0, 4, 10, 11, 12, 20, 21, 22, 23], [0, 4, 5, 6, 10, 11, 12, 20, 21, 22], [0, 4, 10, 11, 12, 20, 21, 22, 35], [2], [0, 4, 10, 11, 12, 20, 21, 22], [0, 10, 11, 12], [2]]
def kp31 : List (List Nat) := [[0, 1], [0, 1, 10], [4], [0, 1, 5], [0, 1, 5, 14], [0, 1, 5], [0, 1, 5, 25], [4], [4]]
def kp32 : List (List Nat) := [[0, 1, 2, 3], [0, 1, 2, 3, 13], [8], [0, 1, 2, 3, 15], [8], [0, 1, 2, 3, 20], [0, 1, 2, 3], [0, 1, 2, 3], [0, 1, 2, 3, 9], [0, 1, 2, 3, 9], [0, 1, 2, 3, 9, 10], [0, 1, 2, 3, 9, 10, 36], [0, 1, 2, 3, 9, 10, 11], [0, 1, 2, 3, 9, 10, 11, 41], [0, 1, 2, 3, 9, 10, 11], [0, 1, 2, 3, 9, 10], [0, 1, 2, 3, 9, 10], [9, 10], [8]]
def kp33 : List (List Nat) := [[0, 1], [4]]
def kp34 : List (List Nat) := [[0], [0, 4], [0, 4, 10], [2, 3], [0, 4, 5], [0, 2, 4, 5], [0, 2, 4, 5, 18], [2, 3], [0, 4, 5, 6], [0, 4, 5, 6], [0, 4, 5, 6, 27], [0, 4, 5, 6], [0, 4, 5, 6, 33], [0, 4, 5, 35], [0, 4, 5], [2, 3, 4, 5], [2, 3, 48], [2, 3], [2, 3]]
def kp35 : List (List Nat) := [[0, 1], [4]]
def kp36 : List (List Nat) := [[0], [0, 8], [2], [0, 3, 4], [2]]
def kp37 : List (List Nat) := [[0], [0, 9], [2], [0, 3], [0, 3, 4], [0, 3, 4, 14], [0, 3, 4], [0, 3, 4, 5], [0, 3, 4, 5, 6], [0, 3, 4, 5, 6, 24], [0, 3, 4, 5, 6], [0, 3, 4, 5, 6], [0, 3, 4], [2]]
def kp38 : List (List Nat) := [[1], [1, 3, 4], [1, 3, 4, 5], [2]]
def kp39 : List (List Nat) := [[1, 2, 3], [1, 2, 3, 7], [1, 2, 3, 7, 8], [1, 2, 3, 7, 8, 18], [1, 2, 3, 7, 8, 18, 19], [1, 2, 3, 7, 8, 18, 19], [6], [1, 2, 3, 7, 8, 18, 24], [6], [1, 2, 3, 7, 8, 18, 36], [6], [1, 2, 3, 7, 8, 18, 51], [6], [1, 2, 3, 7, 8, 18, 66], [6], [1, 2, 3, 7, 8, 18, 81], [6], [1, 2, 3, 7, 8, 18, 100], [1, 2, 3, 7, 8, 18, 100], [1, 2, 3, 7, 8, 18, 100], [6], [1, 2, 3, 7, 8, 18, 105], [6], [1, 2, 3, 7, 8, 18, 109], [6], [1, 2, 7, 8, 18, 145], [6], [2, 7, 8, 18, 160], [6], [2, 174], [6], [6]]
def kp40 : List (List Nat) := [[0], [4], [2]]
def kp41 : List (List Nat) := [[1], [1, 3], [2], [1, 3, 5], [1, 3], [1, 3], [1, 3, 15], [1, 3], [1, 3, 29], [1, 3], [1, 3, 35], [1, 3], [2]]
def kp42 : List (List Nat) := [[1, 2, 3], [1, 2, 3, 7], [1, 2, 3, 7, 8], [1, 2, 3, 7, 8, 16], [1, 2, 3, 7, 8, 16, 17], [1, 2, 3, 7, 8, 16, 17], [6], [1, 2, 3, 7, 8, 16, 22], [6], [1, 2, 3, 7, 8, 16, 38], [1, 2, 3, 7, 8, 16, 38], [2, 8], [1, 2, 3, 7, 8, 16, 43], [2, 7, 50], [6], [2, 8], [1, 2, 3, 7, 8, 16, 52], [2, 8], [2, 3, 7, 8, 16, 56], [2, 3, 7, 8, 16, 56], [2, 3, 7, 8, 16, 56], [2, 8], [2, 3, 7, 8, 16, 60], [6], [2, 3, 7, 8, 16, 64], [2, 8], [2, 3, 7, 8, 16, 72], [2, 8], [2, 7, 8, 16, 80], [2, 83], [6], [2, 8], [2, 8, 86], [6], [2, 94], [6], [6]]
def kp43 : List (List Nat) := [[0, 2], [2]]
def kp44 : List (List Nat) := [[1], [1, 3], [3, 7, 8, 9], [3, 7, 8, 9, 10], [3, 5, 7, 8, 9], [3, 7, 8, 9], [3, 7, 8, 9], [2]]
def kp45 : List (List Nat) := [[0, 1], [0, 1, 5], [0, 1, 5, 18], [0, 1], [0, 1, 6], [0, 1, 6, 7], [0, 1, 6, 7, 25], [0, 1, 6, 7], [0, 1, 6, 7, 9], [0, 1, 6, 7, 9], [0, 1, 6, 7], [0, 1, 6, 43], [6], [4]]
def kp46 : List (List Nat) := [[0, 1], [0, 1, 9], [4], [0, 1, 15], [4], [0, 1, 5], [0, 1, 5, 6], [0, 1, 5, 6, 24], [4], [0, 1, 5, 6], [0, 1, 5]]
def kp47 : List (List Nat) := [[0, 1], [4]]
def kp48 : List (List Nat) := [[0], [2]]
def kp49 : List (List Nat) := [[0], [0, 10], [2, 3], [2, 3]]
def kp50 : List (List Nat) := [[0, 1], [0, 7], [0, 7, 8], [0, 7, 8, 9], [0, 7, 8, 9], [0, 7, 8, 9, 26], [0, 7, 8, 9, 33], [0, 7, 8, 9, 11], [0, 7, 8, 9, 11, 43], [4], [0, 7, 8, 9], [0, 7, 8, 9, 12], [0, 7, 8, 9, 12, 51], [0, 7, 8, 9, 12], [0, 7, 8, 9, 12, 64], [4], [0, 7, 8, 9, 10], [0, 7, 8, 9, 10], [0, 7, 8, 9, 98], [4], [8, 9, 13], [8, 9, 13, 108], [4], [0, 7, 8, 9, 14], [0, 7, 8, 9, 14, 15], [0, 7, 8, 9, 14, 15, 124], [0, 7, 8, 9, 14, 15], [0, 7, 8, 9, 14, 15, 139], [0, 7, 8, 9, 14, 15, 16], [0, 7, 8, 9, 14, 15, 16, 143], [0, 7, 8, 9, 14, 15, 16], [0, 7, 8, 9, 14, 15, 16, 156], [4], [4], [0, 1, 160], [4], [0, 1, 171], [175], [175, 176, 177], [5, 6, 175], [5, 175, 181], [4], [4], [0, 1, 183], [4]]
def kp51 : List (List Nat) := [[0, 1, 2], [6]]
def kp52 : List (List Nat) := [[0], [0, 4], [0, 4, 5], [0, 4, 5, 12], [0, 4, 5], [0, 4, 5, 6], [0, 4, 5, 6, 7], [0, 4, 5, 6, 7, 24], [0, 4, 5, 6, 7], [0, 4, 5, 6, 7, 41], [2, 3], [0, 4, 5, 6, 7], [0, 4, 5], [2, 3]]
def kp53 : List (List Nat) := [[1], [1, 6], [1, 6, 7], [1, 6, 7], [2, 3], [1, 6, 10], [1, 6, 10], [1, 6, 10], [2, 3], [1, 6, 14], [1, 6, 14], [1, 6, 14], [1, 6, 14], [1, 6, 14], [1, 6, 14], [1, 6, 14], [1, 6, 14], [2, 3], [1, 6, 23], [1, 6, 23], [1, 6, 23], [1, 6, 23], [2, 3], [1, 6, 28], [2, 3], [1, 6, 30], [1, 4], [4, 36], [2, 3], [2, 3], [1, 6, 40], [1, 6, 40], [2, 3], [1, 6, 43], [2, 3], [1, 6, 45], [2, 3], [1, 6, 47], [1, 6, 47], [2, 3], [1, 6, 53], [2, 3], [1, 6, 63], [2, 3], [73], [2, 3], [2, 3]]
def kp54 : List (List Nat) := [[1], [1, 4], [1, 4, 5], [1, 4, 5], [2], [1, 4, 16], [2], [1, 4, 31], [2], [1, 4, 36], [2], [1, 4, 41], [2], [1, 4, 46], [2], [1, 51], [2], [2]]
def kp55 : List (List Nat) := [[1], [1, 4], [1, 4, 5], [1, 4, 5], [1, 4, 5], [1, 4, 5], [1, 4, 5], [1, 4, 5], [2], [1, 4, 20], [2], [1, 4, 31], [2], [1, 4, 42], [2], [1, 4, 53], [2], [1, 4, 64], [2], [1, 4, 74], [2], [1, 84], [2], [2]]
def kp56 : List (List Nat) := [[0], [2]]
def kp57 : List (List Nat) := [[0], [2]]
def kp58 : List (List Nat) := [[0], [2]]
def kp59 : List (List Nat) := [[0, 2, 3, 9, 30], [0, 2, 3, 9, 13, 30], [2, 3], [0, 2, 3, 4, 9, 30], [0, 2, 3, 4, 9, 17, 18, 19, 30], [0, 2, 3, 4, 9, 17, 18, 19, 20, 30], [0, 2, 3, 4, 5, 6, 9, 17, 18, 19, 30], [0, 2, 3, 4, 5, 6, 7, 9, 17, 18, 19, 30], [0, 2, 3, 4, 5, 7, 9, 17, 18, 19, 28, 30], [0, 2, 3, 4, 5, 7, 9, 17, 18, 19, 28, 30], [0, 2, 3, 4, 5, 7, 9, 17, 18, 19, 28, 30, 37], [2, 3], [0, 2, 3, 4, 5, 7, 9, 17, 18, 19, 28, 30], [0, 2, 3, 4, 9, 17, 18, 19, 30], [0, 2, 3, 4, 9, 17, 18, 19, 30], [2, 3]]
def kp60 : List (List Nat) := [[0], [2]]
def kp61 : List (List Nat) := [[1, 2], [1, 2, 4], [1, 2, 4, 5], [2], [1, 2, 4, 14], [1, 2, 4, 14], [1, 2, 4, 14], [2], [1, 2, 4, 31], [1, 2, 4, 31], [2], [1, 2, 4, 41], [2], [1, 2, 4, 50], [2], [1, 2, 4, 59], [2], [1, 2, 4, 68], [1, 2, 4, 68], [2], [1, 2, 4, 78], [2], [1, 2, 4, 97], [2], [1, 2, 107], [2], [2]]
def kp62 : List (List Nat) := [[0], [2]]
def kp63 : List (List Nat) := [[1, 2], [1, 2, 3], [1, 2, 3, 15], [1, 2, 3, 15, 16], [2, 3], [1, 2, 3, 15, 20], [1, 2, 3], [1, 2, 3], [1, 2, 3], [2, 3, 42], [2, 3], [1, 2, 3, 15, 51], [1, 2, 3, 15, 51], [2, 3], [1, 2, 3, 15, 55], [2, 3], [1, 2, 3, 15, 62], [2, 3], [1, 2, 3, 15, 66], [1, 2, 3, 15, 66], [2, 3], [1, 2, 3, 15, 71], [2, 3], [1, 2, 3, 15, 75], [2, 3], [1, 2, 3, 15, 87], [2, 3], [1, 2, 3, 90], [2, 3], [2]]
def kp64 : List (List Nat) := [[0, 1, 2], [6]]
def kp65 : List (List Nat) := [[1, 2], [1, 2, 3], [1, 2, 3, 15], [2, 3], [1, 2, 3, 15, 17], [1, 2, 3, 15, 17], [2, 3], [1, 2, 3, 15, 22], [1, 2, 3], [2, 3, 31], [2, 3], [2, 3], [1, 2, 3, 15, 36], [1, 2, 3], [2, 3, 50], [2, 3], [2, 3], [1, 2, 3, 55], [2, 3], [2]]
def kp66 : List (List Nat) := [[0], [2]]
def kp67 : List (List Nat) := [[0], [2]]
def kp68 : List (List Nat) := [[0, 1, 4], [0, 4, 5], [0, 4, 5, 6], [0, 4, 6, 23, 24, 25], [0, 4, 6, 23, 24, 25, 26], [0, 4, 6, 8, 23, 24, 25], [0, 4, 6, 23, 24, 25], [0, 4, 6, 23, 24, 25], [4]]
def kp69 : List (List Nat) := [[0, 2], [2, 4], [2, 4, 6], [2, 4], [2]]
def kp71 : List (List Nat) := [[0, 1], [0, 1, 5], [0, 1, 5, 16], [4], [0, 1, 5, 24], [4], [0, 1, 5, 31], [4], [0, 1, 5, 36], [4], [0, 1, 5, 6], [0, 1, 5, 6, 7], [0, 1, 5, 6, 7, 8], [0, 1, 5, 6, 7, 8, 9], [0, 1, 5, 6, 7, 8, 9, 10], [0, 1, 5, 6, 7, 8, 9, 10, 59], [0, 1, 5, 6, 7, 8, 9, 10, 64], [0, 1, 5, 6, 7, 8, 9, 10, 11], [0, 1, 5, 6, 7, 8, 9, 10, 11, 73], [4], [0, 1, 5, 6, 7, 8, 9, 10], [0, 1, 5, 6, 7, 8, 9, 10, 93], [4], [0, 1, 5, 6, 7, 8, 9, 10], [0, 1, 5, 6, 7, 8, 9, 10], [0, 1, 5, 6, 7, 8, 9, 10, 107], [8, 12], [8, 12, 114], [4], [4], [0, 1, 5, 6, 7, 8, 9, 10, 132], [8, 13], [8, 13, 139], [4], [4], [4]]
def kp72 : List (List Nat) := [[0], [0, 4], [0, 4, 16], [2, 3], [0, 4, 5], [0, 4, 5, 6], [0, 4, 5, 6, 23], [0, 7], [2, 3], [0, 4, 5, 6, 8], [0, 4, 5, 8, 9], [0, 5, 8, 9, 45], [2, 3], [0, 5, 8, 9, 10], [0, 5, 8, 10, 57], [2, 3], [0, 5, 8, 10, 59], [2, 3], [0, 5, 8, 10, 11], [0, 5, 8, 10, 11, 75], [2, 3], [0, 5, 10, 11, 77], [2, 3], [5, 10, 11, 12], [5, 10, 11, 12, 98], [2, 3], [2, 3]]
def kp73 : List (List Nat) := [[0, 1], [4]]
def kp74 : List (List Nat) := [[0], [0, 3], [2], [10], [2], [2]]
def kp75 : List (List Nat) := [[0], [2]]
def kp77 : List (List Nat) := [[0], [3], [3, 4], [3, 4], [3, 4], [3, 4], [3, 4], [3, 4], [3, 4], [3, 4], [3, 4], [3, 4], [3, 4], [3, 4], [3, 4], [3, 4], [3, 4], [3, 4], [4], [2], [2]]
def kp78 : List (List Nat) := [[0], [2]]
def kp79 : List (List Nat) := [[0], [2]]
def kp80 : List (List Nat) := [[1], [1, 3], [1, 3, 8], [1, 3, 8, 9], [2], [1, 3, 8, 24], [2], [1, 3, 8, 35], [2], [1, 3, 8, 42], [2], [1, 8, 49], [1, 8, 49], [2], [1, 55], [2], [2]]
def kp81 : List (List Nat) := [[0], [2]]
def kp82 : List (List Nat) := [[1], [2]]
def kp83 : List (List Nat) := [[0], [2]]
def kp84 : List (List Nat) := [[1], [1, 5], [2], [1, 7], [1, 7, 8], [2], [1, 7, 20], [2], [1, 7, 29], [2], [1, 7, 38], [2], [1, 7, 47], [1, 7, 47], [2], [1, 53], [2], [2]]
def kp85 : List (List Nat) := [[0], [2]]
def kp86 : List (List Nat) := [[0], [2]]
def kp87 : List (List Nat) := [[0], [3], [3, 4], [2], [3, 6], [2], [3, 8], [3, 8], [2], [3, 11], [3, 11], [3, 11], [3, 11], [3, 11], [3, 11], [2], [3, 18], [2], [3, 20], [3, 20], [2], [3, 23], [3, 23], [3, 23], [2], [27], [2], [2]]
def kp88 : List (List Nat) := [[0], [2]]
def kp89 : List (List Nat) := [[0, 1], [4]]
def kp90 : List (List Nat) := [[0, 1], [4]]
def kp91 : List (List Nat) := [[0, 1], [0, 1, 5, 6], [0, 1, 5, 6, 7], [0, 1, 5, 6, 7, 8], [0, 1, 5, 6, 7, 8, 9], [0, 1, 5, 6, 7, 8, 9, 20], [0, 1, 5, 6, 7, 8, 9], [0, 1, 5, 6, 7, 8, 9], [0, 1, 5, 6, 7, 8, 39], [4], [0, 1, 5, 6, 7, 8, 10], [0, 1, 5, 6, 7, 8, 10, 44], [0, 1, 5, 6, 7, 8, 10], [0, 1, 5, 6, 7, 8, 10], [0, 1, 5, 6, 7, 8, 10], [0, 1, 5, 6, 7, 8, 10], [0, 1, 5, 6, 7, 8, 10, 77], [4], [4]]
def kp92 : List (List Nat) := [[0], [0, 3], [0, 3, 7], [0, 3], [0, 3, 15], [2], [2]]
def kp93 : List (List Nat) := [[0], [3], [3, 8], [2], [2]]
def kp94 : List (List Nat) := [[0], [0, 3], [0, 3, 7], [0, 3], [0, 3, 13], [2], [2]]
def kp95 : List (List Nat) := [[0, 1], [0, 1, 9], [4], [0, 1, 5], [0, 1, 5, 16], [0, 1, 5, 6], [0, 1, 6, 29], [4], [0, 1, 5], [0, 5, 33], [4], [0, 5, 43], [0, 5, 7], [0, 5, 7, 55], [0, 5, 7], [0, 5, 7, 62], [4], [4]]
def kp96 : List (List Nat) := [[0, 1], [4]]
def kp97 : List (List Nat) := [[0, 1], [1, 5], [5, 12], [4], [4]]
def kp98 : List (List Nat) := [[0], [0, 3], [2], [0, 6], [2], [0, 14], [2], [2]]
def kp99 : List (List Nat) := [[0, 1], [0, 1, 5], [0, 1, 5, 9], [0, 1, 5], [0, 1, 5, 17], [4], [4]]
def kp100 : List (List Nat) := [[], [0]]
def kp101 : List (List Nat) := [[0, 1, 3], [0, 1, 3, 8], [0, 1, 3], [0, 1, 3, 18]]
def kp102 : List (List Nat) := [[0], [0, 5, 6], [0, 5, 6, 7], [0, 3, 5, 6], [0, 5, 6, 14], [2], [0, 5, 6], [2]]
def kp103 : List (List Nat) := [[0], [3], [3, 8], [2], [2]]
def kp104 : List (List Nat) := [[0, 1], [4]]
def kp105 : List (List Nat) := [[0, 1], [0, 1, 17], [4], [0, 1, 5], [0, 5, 6], [0, 5, 6, 27], [0, 5, 6, 7], [0, 6, 7], [0, 5, 6], [0, 5, 40], [4], [0, 5, 8], [0, 5, 49], [0, 5, 9], [0, 5, 9, 10], [0, 5, 9, 60], [0, 5, 9], [5, 9, 11], [5, 11, 68], [4], [4]]
def kp106 : List (List Nat) := [[0, 1], [4]]
def kp107 : List (List Nat) := [[0, 1], [1, 5], [5, 12], [4], [4]]
def kp108 : List (List Nat) := [[0], [0, 3], [2], [0, 6], [2], [0, 13], [2], [2]]
def kp109 : List (List Nat) := [[0, 1], [0, 1, 7, 8], [0, 1, 7, 8, 9], [0, 1, 5, 7, 8], [0, 1, 5, 7, 8, 16], [4], [0, 1, 7, 8], [4]]
def kp111 : List (List Nat) := [[0], [0, 4], [0, 4, 5], [0, 4, 5, 12], [0, 4, 5], [0, 4, 5], [0, 4, 6, 7], [4, 6, 7, 8], [4, 6, 7, 8, 25], [4, 6, 7, 8], [4, 6, 7, 8, 30], [4, 6, 7, 8], [4, 6, 7, 8], [2, 3]]
def kp112 : List (List Nat) := [[0], [2]]
def kp113 : List (List Nat) := [[0], [2]]
def kp114 : List (List Nat) := [[], [0]]
def kp115 : List (List Nat) := [[0, 1], [0, 1, 8], [0, 1], [4]]
def kp116 : List (List Nat) := [[0, 1], [0, 1, 12], [4], [4]]
def kp117 : List (List Nat) := [[0, 1, 2], [0, 1, 2, 12], [6], [0, 2, 7], [0, 2, 7, 18], [0, 2, 7], [0, 2, 7, 24], [0, 2, 7, 24, 25], [6], [0, 2, 7, 24, 30], [6], [0, 2, 7, 32], [0, 2, 7], [0, 2, 7, 39], [6], [6]]
def kp118 : List (List Nat) := [[], [0]]
def kp119 : List (List Nat) := [[0], [2]]
def kp120 : List (List Nat) := [[0], [2]]
def kp121 : List (List Nat) := [[0, 1], [0, 1, 8], [0, 1], [4]]
def kp122 : List (List Nat) := [[0, 1], [0, 1, 10], [4], [4]]
def kp123 : List (List Nat) := [[0, 1, 2], [0, 1, 2, 12], [6], [0, 2, 7], [0, 2, 7, 24], [0, 2, 7], [0, 2, 7, 27], [6], [0, 2, 7, 36], [0, 2, 7], [6]]
def kp124 : List (List Nat) := [[0], [2]]
def kp125 : List (List Nat) := [[0], [2]]
def kp126 : List (List Nat) := [[0], [2]]
def kp127 : List (List Nat) := [[0], [2]]
def keepT : List (List (List Nat)) := [[], [], [], kp3, kp4, kp5, kp6, kp7, kp8, kp9, kp10, kp11, kp12, kp13, kp14, kp15, kp16, kp17, kp18, kp19, kp20, kp21, kp22, kp23, kp24, kp25, kp26, kp27, kp28, kp29, kp30, kp31, kp32, kp33, kp34, kp35, kp36, kp37, kp38, kp39, kp40, kp41, kp42, kp43, kp44, kp45, kp46, kp47, kp48, kp49, kp50, kp51, kp52, kp53, kp54, kp55, kp56, kp57, kp58, kp59, kp60, kp61, kp62, kp63, kp64, kp65, kp66, kp67, kp68, kp69, [], kp71, kp72, kp73, kp74, kp75, [], kp77, kp78, kp79, kp80, kp81, kp82, kp83, kp84, kp85, kp86, kp87, kp88, kp89, kp90, kp91, kp92, kp93, kp94, kp95, kp96, kp97, kp98, kp99, kp100, kp101, kp102, kp103, kp104, kp105, kp106, kp107, kp108, kp109, [], kp111, kp112, kp113, kp114, kp115, kp116, kp117, kp118, kp119, kp120, kp121, kp122, kp123, kp124, kp125, kp126, kp127, [], [], [], [], [], [], [], [], [], [], [], [], [], [], [], [], [], [], [], [], [], [], [], [], [], [], []]
def refT : List (List Nat) := []
def moveT : List (List Nat) := []
def fuseT : List (List Nat) := []
def bownT : List (List Nat) := [[], [], [], [], [], [], [], [], [], [], [], [], [], [], [], [], [], [], [], [], [], [], [], [], [], [], [], [], [], [], [], [], [], [], [], [], [], [], [], [], [], [], [], [], [], [], [], [], [], [], [], [], [], [], [], [], [], [], [], [], [], [], [], [], [4]]
def truncT : List (List Nat) := []
noncomputable def adv : Adv := ⟨fun f r => (keepT.getD f []).getD r [], fun f => moveT.getD f [], fun f => refT.getD f [], fun _ _ => List.range 200, fun t => (bownT.getD t []), fun f r => (fuseT.getD f []).getD r 0, fun f d => mem? d (truncT.getD f [])⟩
noncomputable def X0 : Ctx := ⟨Tryd.prog, adv, fun f => bif Nat.beq f 59 then some Prim.impl_startsOf else bif Nat.beq f 104 then some Prim.strings_Contains else none, fun g => bif Nat.beq g 5 then some signsRow else bif Nat.beq g 4 then some keywordsRow else bif Nat.beq g 3 then some builtinsRow else none, fun g => bif Nat.beq g 0 then true else false⟩

/-! laws_szIntS -/
def H.laws_szIntS (o : List Row → Int → Option (Int)) : Prop := ∀ (a : List Row) (left : Int) (r : Int), o a left = some r → call X0 27 [V.d (D.sl false 1 a), V.d (D.int IntKind.i64 left)] [] = some ([[D.int IntKind.i64 r]], [])
def P.laws_szIntS (o : List Row → Int → Option (Int)) (q : List V → List Cell → Res (List Row × List Cell)) (a : List V) (c : List Cell) : Res (List Row × List Cell) := match a, c with
  | [V.d (D.sl false 1 a), V.d (D.int IntKind.i64 left)], [] => ⟨Int, o a left, fun r => ([[D.int IntKind.i64 r]], [])⟩
  | a, c => q a c
theorem P.laws_szIntS_ok {o : List Row → Int → Option (Int)} {q : List V → List Cell → Res (List Row × List Cell)} (h : H.laws_szIntS o) (hq : FnOk X0 27 q) : FnOk X0 27 (P.laws_szIntS o q) := by
  intro a c r hr
  unfold P.laws_szIntS at hr
  split at hr
  · obtain ⟨x, hx, rfl⟩ := Res.val_some hr
    exact h _ _ x hx
  · exact hq _ _ _ hr
noncomputable def M.laws_szIntS_C {R : Type} (a : List Row) (left : Int) (k : Int → Option R) : Option R :=
  bif decide (IntKind.i64.wrap (left - (↑a.length : Int)) < 0) then (k (-1)) else (k (IntKind.i64.wrap (left - (↑a.length : Int))))
noncomputable def M.laws_szIntS (a : List Row) (left : Int) : Option (Int) := M.laws_szIntS_C a left some
theorem M.laws_szIntS_n {R : Type} (a : List Row) (left : Int) (k : Int → Option R) : M.laws_szIntS_C a left k = (M.laws_szIntS_C a left some).bind k := by
  simp only [M.laws_szIntS_C, bif_bind, bind_bind, some_bind, none_bind, sumE_bind, optE_bind, letE_bind]
noncomputable def K.laws_szIntS : KonC := knil
noncomputable def L.laws_szIntS : LoopC := lnil
theorem E.laws_szIntS {R : Type} (a : List Row) (left : Int) (k : List Row → List Cell → Option R) : bodyC X0 (K.laws_szIntS) (L.laws_szIntS) 27 [V.d (D.sl false 1 a), V.d (D.int IntKind.i64 left)] [] k = M.laws_szIntS_C a left (fun r => k [[D.int IntKind.i64 r]] []) := by kernel_rfl
theorem LC.laws_szIntS : loops (codeOf X0.P 27) = [] := by kernel_rfl
theorem C.laws_szIntS : H.laws_szIntS (M.laws_szIntS) := by
  intro a left r h
  exact fn_sound (enc := fun r => ([[D.int IntKind.i64 r]], [])) (K := K.laws_szIntS) (L := L.laws_szIntS) (by kernel_rfl) knil_ok (by rw [LC.laws_szIntS]; exact LOk.nil) (by rw [E.laws_szIntS, M.laws_szIntS_n] <;> rfl) h

/-! laws_szNode -/
def H.laws_szNode (o : Int → Int → List UInt8 → List UInt8 → List Row → Int → Option (Int)) : Prop := ∀ (a : Int) (a1 : Int) (a2 : List UInt8) (a3 : List UInt8) (a4 : List Row) (left : Int) (r : Int), o a a1 a2 a3 a4 left = some r → call X0 16 [V.agg [V.d (D.int IntKind.i64 a), V.d (D.int IntKind.i64 a1), V.d (D.str a2), V.d (D.str a3), V.d (D.sl false 1 a4)], V.d (D.int IntKind.i64 left)] [] = some ([[D.int IntKind.i64 r]], [])
def P.laws_szNode (o : Int → Int → List UInt8 → List UInt8 → List Row → Int → Option (Int)) (q : List V → List Cell → Res (List Row × List Cell)) (a : List V) (c : List Cell) : Res (List Row × List Cell) := match a, c with
  | [V.agg [V.d (D.int IntKind.i64 a), V.d (D.int IntKind.i64 a1), V.d (D.str a2), V.d (D.str a3), V.d (D.sl false 1 a4)], V.d (D.int IntKind.i64 left)], [] => ⟨Int, o a a1 a2 a3 a4 left, fun r => ([[D.int IntKind.i64 r]], [])⟩
  | a, c => q a c
theorem P.laws_szNode_ok {o : Int → Int → List UInt8 → List UInt8 → List Row → Int → Option (Int)} {q : List V → List Cell → Res (List Row × List Cell)} (h : H.laws_szNode o) (hq : FnOk X0 16 q) : FnOk X0 16 (P.laws_szNode o q) := by
  intro a c r hr
  unfold P.laws_szNode at hr
  split at hr
  · obtain ⟨x, hx, rfl⟩ := Res.val_some hr
    exact h _ _ _ _ _ _ x hx
  · exact hq _ _ _ hr
noncomputable def M.laws_szNode_C {R : Type} (a : Int) (a1 : Int) (a2 : List UInt8) (a3 : List UInt8) (a4 : List Row) (left : Int) (k : Int → Option R) : Option R :=
  bif decide (IntKind.i64.wrap (left - (↑a2.length : Int)) < 0) then (k (-1)) else
   (bif decide (IntKind.i64.wrap (IntKind.i64.wrap (left - (↑a2.length : Int)) - (↑a3.length : Int)) < 0) then (k (-1)) else
    ((M.laws_szIntS a4 (IntKind.i64.wrap (IntKind.i64.wrap (left - (↑a2.length : Int)) - (↑a3.length : Int)))).bind fun r6 => (bif decide (r6 < 0) then (k (-1)) else (k r6))))
noncomputable def M.laws_szNode (a : Int) (a1 : Int) (a2 : List UInt8) (a3 : List UInt8) (a4 : List Row) (left : Int) : Option (Int) := M.laws_szNode_C a a1 a2 a3 a4 left some
theorem M.laws_szNode_n {R : Type} (a : Int) (a1 : Int) (a2 : List UInt8) (a3 : List UInt8) (a4 : List Row) (left : Int) (k : Int → Option R) : M.laws_szNode_C a a1 a2 a3 a4 left k = (M.laws_szNode_C a a1 a2 a3 a4 left some).bind k := by
  simp only [M.laws_szNode_C, bif_bind, bind_bind, some_bind, none_bind, sumE_bind, optE_bind, letE_bind]
noncomputable def K.laws_szNode : KonC := (kcons 27 (P.laws_szIntS M.laws_szIntS pnil) knil)
noncomputable def L.laws_szNode : LoopC := lnil
theorem E.laws_szNode {R : Type} (a : Int) (a1 : Int) (a2 : List UInt8) (a3 : List UInt8) (a4 : List Row) (left : Int) (k : List Row → List Cell → Option R) : bodyC X0 (K.laws_szNode) (L.laws_szNode) 16 [V.agg [V.d (D.int IntKind.i64 a), V.d (D.int IntKind.i64 a1), V.d (D.str a2), V.d (D.str a3), V.d (D.sl false 1 a4)], V.d (D.int IntKind.i64 left)] [] k = M.laws_szNode_C a a1 a2 a3 a4 left (fun r => k [[D.int IntKind.i64 r]] []) := by kernel_rfl
theorem LC.laws_szNode : loops (codeOf X0.P 16) = [] := by kernel_rfl
theorem C.laws_szNode : H.laws_szNode (M.laws_szNode) := by
  intro a a1 a2 a3 a4 left r h
  exact fn_sound (enc := fun r => ([[D.int IntKind.i64 r]], [])) (K := K.laws_szNode) (L := L.laws_szNode) (by kernel_rfl) (kcons_ok (P.laws_szIntS_ok C.laws_szIntS pnil_ok) knil_ok) (by rw [LC.laws_szNode]; exact LOk.nil) (by rw [E.laws_szNode, M.laws_szNode_n] <;> rfl) h

/-! laws_szNodeS -/
def H.laws_szNodeS (o : List Row → Int → Option (Int)) : Prop := ∀ (a : List Row) (left : Int) (r : Int), o a left = some r → call X0 7 [V.d (D.sl false 5 a), V.d (D.int IntKind.i64 left)] [] = some ([[D.int IntKind.i64 r]], [])
def P.laws_szNodeS (o : List Row → Int → Option (Int)) (q : List V → List Cell → Res (List Row × List Cell)) (a : List V) (c : List Cell) : Res (List Row × List Cell) := match a, c with
  | [V.d (D.sl false 5 a), V.d (D.int IntKind.i64 left)], [] => ⟨Int, o a left, fun r => ([[D.int IntKind.i64 r]], [])⟩
  | a, c => q a c
theorem P.laws_szNodeS_ok {o : List Row → Int → Option (Int)} {q : List V → List Cell → Res (List Row × List Cell)} (h : H.laws_szNodeS o) (hq : FnOk X0 7 q) : FnOk X0 7 (P.laws_szNodeS o q) := by
  intro a c r hr
  unfold P.laws_szNodeS at hr
  split at hr
  · obtain ⟨x, hx, rfl⟩ := Res.val_some hr
    exact h _ _ x hx
  · exact hq _ _ _ hr
noncomputable def M.laws_szNodeS_l5_C {R : Type} (a : List Row) (s : Int × Int) (kn : Int × Int → Option R) (ke : (Unit) ⊕ (Int × Int) → Option R) : Option R := match s with
  | (left, i) =>
    bif decide (i < (↑a.length : Int)) then
     ((idx a i).bind fun row0 =>
      ((cInt IntKind.i64 row0 0).bind fun n1 =>
       ((cInt IntKind.i64 row0 1).bind fun n2 =>
        ((cStr row0 2).bind fun s3 =>
         ((cStr row0 3).bind fun s4 =>
          ((cSl 1 row0 4).bind fun rows5 =>
           ((M.laws_szNode n1 n2 s3 s4 rows5 left).bind fun r7 => (bif decide (r7 < 0) then (ke (.inl ())) else (kn ((r7, IntKind.i64.wrap (i + 1)))))))))))) else (ke (.inr ((left, i))))
noncomputable def M.laws_szNodeS_l5_b (a : List Row) (s : Int × Int) : Option ((Int × Int) ⊕ ((Unit) ⊕ (Int × Int))) := M.laws_szNodeS_l5_C a s (fun s => some (.inl s)) (fun t => some (.inr t))
noncomputable def M.laws_szNodeS_l5 (a : List Row) (s : Int × Int) : Option ((Unit) ⊕ (Int × Int)) := loopM (M.laws_szNodeS_l5_b a) s
theorem M.laws_szNodeS_l5_n {R : Type} (a : List Row) (s : Int × Int) (kn : Int × Int → Option R) (ke : (Unit) ⊕ (Int × Int) → Option R) : M.laws_szNodeS_l5_C a s kn ke = (M.laws_szNodeS_l5_b a s).bind fun r => match r with | .inl s => kn s | .inr t => ke t := by
  obtain ⟨left, i⟩ := s
  all_goals
    simp only [M.laws_szNodeS_l5_b, M.laws_szNodeS_l5_C, bif_bind, bind_bind, some_bind, none_bind, sumE_bind, optE_bind, letE_bind]
def A.laws_szNodeS_l5 (a : List Row) : Alt (Ex × St) := .sum (.leaf (Unit) (fun t => (Ex.ret, { tm := [(4, V.d (D.int IntKind.i64 (-1)))], mem := [] }))) (.leaf (Int × Int) (fun t => (Ex.exit 0, { tm := [(0, V.d (D.sl false 5 a)), (1, V.d (D.int IntKind.i64 t.fst)), (5, V.d (D.int IntKind.i64 t.snd)), (15, V.d (D.bool false))], mem := [] })))
def T.laws_szNodeS_l5 (a : List Row) (s : Int × Int) : St := match s with
  | (left, i) => { tm := [(0, V.d (D.sl false 5 a)), (1, V.d (D.int IntKind.i64 left)), (5, V.d (D.int IntKind.i64 i))], mem := [] }
noncomputable def K.laws_szNodeS_l5 : KonC := (kcons 16 (P.laws_szNode M.laws_szNode pnil) knil)
noncomputable def L.laws_szNodeS_l5 : LoopC := lnil
theorem E.laws_szNodeS_l5 {R : Type} (a : List Row) (s : Int × Int) (k : Ex → St → Option R) : denC X0 (K.laws_szNodeS_l5) (L.laws_szNodeS_l5) 7 (loopCode X0.P 7 5) (T.laws_szNodeS_l5 a s) k = M.laws_szNodeS_l5_C a s (fun s => k .normal (T.laws_szNodeS_l5 a s)) (fun t => (A.laws_szNodeS_l5 a).go t fun r => k r.1 r.2) := by
  obtain ⟨left, i⟩ := s
  all_goals kernel_rfl
theorem LC.laws_szNodeS_l5 : loops (loopCode X0.P 7 5) = [] := by kernel_rfl
noncomputable def PL.laws_szNodeS_l5 (S : St) : ResA (Ex × St) := match S with
  | { tm := [(0, V.d (D.sl false 5 a)), (1, V.d (D.int IntKind.i64 left)), (5, V.d (D.int IntKind.i64 i))], mem := [] } => ⟨A.laws_szNodeS_l5 a, M.laws_szNodeS_l5 a ((left, i))⟩
  | _ => .none
theorem C.laws_szNodeS_l5 : LpOk X0 7 5 (loopCode X0.P 7 5) (PL.laws_szNodeS_l5) := by
  refine ⟨by kernel_rfl, fun S r hr => ?_⟩
  unfold PL.laws_szNodeS_l5 at hr
  split at hr
  · obtain ⟨x, hx, rfl⟩ := ResA.val_some hr
    exact lp_sound (K := K.laws_szNodeS_l5) (L := L.laws_szNodeS_l5) (b := M.laws_szNodeS_l5_b _) (tm := T.laws_szNodeS_l5 _) (tx := (A.laws_szNodeS_l5 _).enc) (kcons_ok (P.laws_szNode_ok C.laws_szNode pnil_ok) knil_ok) (by rw [LC.laws_szNodeS_l5]; exact LOk.nil) (fun s => by rw [E.laws_szNodeS_l5, M.laws_szNodeS_l5_n]; congr 1; funext r; cases r <;> first | rfl | exact Alt.go_eq _ _ _) (by intro t; rcases t with t | t <;> first | (intro h; cases h) | (intro h; cases h)) hx (s := (_, _))
  · cases hr
noncomputable def M.laws_szNodeS_C {R : Type} (a : List Row) (left : Int) (k : Int → Option R) : Option R :=
  bif decide (IntKind.i64.wrap (left - (↑a.length : Int)) < 0) then (k (-1)) else
   ((M.laws_szNodeS_l5 a ((IntKind.i64.wrap (left - (↑a.length : Int)), 0))).bind fun u10 =>
   sumE u10 (fun t8 => (k (-1))) fun u11 =>
    letE u11 fun t9 => (k t9.fst))
noncomputable def M.laws_szNodeS (a : List Row) (left : Int) : Option (Int) := M.laws_szNodeS_C a left some
theorem M.laws_szNodeS_n {R : Type} (a : List Row) (left : Int) (k : Int → Option R) : M.laws_szNodeS_C a left k = (M.laws_szNodeS_C a left some).bind k := by
  simp only [M.laws_szNodeS_C, bif_bind, bind_bind, some_bind, none_bind, sumE_bind, optE_bind, letE_bind]
noncomputable def K.laws_szNodeS : KonC := knil
noncomputable def L.laws_szNodeS : LoopC := (lcons 5 (PL.laws_szNodeS_l5) lnil)
theorem E.laws_szNodeS {R : Type} (a : List Row) (left : Int) (k : List Row → List Cell → Option R) : bodyC X0 (K.laws_szNodeS) (L.laws_szNodeS) 7 [V.d (D.sl false 5 a), V.d (D.int IntKind.i64 left)] [] k = M.laws_szNodeS_C a left (fun r => k [[D.int IntKind.i64 r]] []) := by kernel_rfl
theorem LC.laws_szNodeS : loops (codeOf X0.P 7) = [loopCode X0.P 7 5] := by kernel_rfl
theorem C.laws_szNodeS : H.laws_szNodeS (M.laws_szNodeS) := by
  intro a left r h
  exact fn_sound (enc := fun r => ([[D.int IntKind.i64 r]], [])) (K := K.laws_szNodeS) (L := L.laws_szNodeS) (by kernel_rfl) knil_ok (by rw [LC.laws_szNodeS]; exact (LOk.cons (LpOk.at (C.laws_szNodeS_l5) (fun _ => rfl)) LOk.nil)) (by rw [E.laws_szNodeS, M.laws_szNodeS_n] <;> rfl) h

/-! laws_toIntS -/
def H.laws_toIntS (o : List Row → Option (List Row)) : Prop := ∀ (a : List Row) (r : List Row), o a = some r → call X0 29 [V.d (D.sl false 1 a)] [] = some ([[D.sl true 1 r]], [])
def P.laws_toIntS (o : List Row → Option (List Row)) (q : List V → List Cell → Res (List Row × List Cell)) (a : List V) (c : List Cell) : Res (List Row × List Cell) := match a, c with
  | [V.d (D.sl false 1 a)], [] => ⟨List Row, o a, fun r => ([[D.sl true 1 r]], [])⟩
  | a, c => q a c
theorem P.laws_toIntS_ok {o : List Row → Option (List Row)} {q : List V → List Cell → Res (List Row × List Cell)} (h : H.laws_toIntS o) (hq : FnOk X0 29 q) : FnOk X0 29 (P.laws_toIntS o q) := by
  intro a c r hr
  unfold P.laws_toIntS at hr
  split at hr
  · obtain ⟨x, hx, rfl⟩ := Res.val_some hr
    exact h _ x hx
  · exact hq _ _ _ hr
noncomputable def M.laws_toIntS_l3_C {R : Type} (a : List Row) (s : Int × List Row) (kn : Int × List Row → Option R) (ke : Int × List Row → Option R) : Option R := match s with
  | (i, x') =>
    bif decide (i < (↑a.length : Int)) then
     ((idx a i).bind fun row19 =>
      ((cInt IntKind.i64 row19 0).bind fun n20 =>
       ((idx x' i).bind fun row21 =>
        (x'[i.toNat]?.bind fun row22 => (kn ((IntKind.i64.wrap (i + 1), x'.set i.toNat (splice row22 0 [D.int IntKind.i64 n20])))))))) else (ke ((i, x')))
noncomputable def M.laws_toIntS_l3_b (a : List Row) (s : Int × List Row) : Option ((Int × List Row) ⊕ (Int × List Row)) := M.laws_toIntS_l3_C a s (fun s => some (.inl s)) (fun t => some (.inr t))
noncomputable def M.laws_toIntS_l3 (a : List Row) (s : Int × List Row) : Option (Int × List Row) := loopM (M.laws_toIntS_l3_b a) s
theorem M.laws_toIntS_l3_n {R : Type} (a : List Row) (s : Int × List Row) (kn : Int × List Row → Option R) (ke : Int × List Row → Option R) : M.laws_toIntS_l3_C a s kn ke = (M.laws_toIntS_l3_b a s).bind fun r => match r with | .inl s => kn s | .inr t => ke t := by
  obtain ⟨i, x'⟩ := s
  all_goals
    simp only [M.laws_toIntS_l3_b, M.laws_toIntS_l3_C, bif_bind, bind_bind, some_bind, none_bind, sumE_bind, optE_bind, letE_bind]
def A.laws_toIntS_l3 (a : List Row) : Alt (Ex × St) := .leaf (Int × List Row) (fun t => (Ex.exit 0, { tm := [(0, V.d (D.sl false 1 a)), (3, V.own 300000 0), (4, V.d (D.int IntKind.i64 t.fst)), (11, V.d (D.bool false))], mem := [(300000, Cell.arr false true 0 1 t.snd)] }))
def T.laws_toIntS_l3 (a : List Row) (s : Int × List Row) : St := match s with
  | (i, x') => { tm := [(0, V.d (D.sl false 1 a)), (3, V.own 300000 0), (4, V.d (D.int IntKind.i64 i))], mem := [(300000, Cell.arr false true 0 1 x')] }
noncomputable def K.laws_toIntS_l3 : KonC := knil
noncomputable def L.laws_toIntS_l3 : LoopC := lnil
theorem E.laws_toIntS_l3 {R : Type} (a : List Row) (s : Int × List Row) (k : Ex → St → Option R) : denC X0 (K.laws_toIntS_l3) (L.laws_toIntS_l3) 29 (loopCode X0.P 29 3) (T.laws_toIntS_l3 a s) k = M.laws_toIntS_l3_C a s (fun s => k .normal (T.laws_toIntS_l3 a s)) (fun t => (A.laws_toIntS_l3 a).go t fun r => k r.1 r.2) := by
  obtain ⟨i, x'⟩ := s
  all_goals kernel_rfl
theorem LC.laws_toIntS_l3 : loops (loopCode X0.P 29 3) = [] := by kernel_rfl
noncomputable def PL.laws_toIntS_l3 (S : St) : ResA (Ex × St) := match S with
  | { tm := [(0, V.d (D.sl false 1 a)), (3, V.own 300000 0), (4, V.d (D.int IntKind.i64 i))], mem := [(300000, Cell.arr false true 0 1 x')] } => ⟨A.laws_toIntS_l3 a, M.laws_toIntS_l3 a ((i, x'))⟩
  | _ => .none
theorem C.laws_toIntS_l3 : LpOk X0 29 3 (loopCode X0.P 29 3) (PL.laws_toIntS_l3) := by
  refine ⟨by kernel_rfl, fun S r hr => ?_⟩
  unfold PL.laws_toIntS_l3 at hr
  split at hr
  · obtain ⟨x, hx, rfl⟩ := ResA.val_some hr
    exact lp_sound (K := K.laws_toIntS_l3) (L := L.laws_toIntS_l3) (b := M.laws_toIntS_l3_b _) (tm := T.laws_toIntS_l3 _) (tx := (A.laws_toIntS_l3 _).enc) knil_ok (by rw [LC.laws_toIntS_l3]; exact LOk.nil) (fun s => by rw [E.laws_toIntS_l3, M.laws_toIntS_l3_n]; congr 1; funext r; cases r <;> first | rfl | exact Alt.go_eq _ _ _) (by intro t; intro h; cases h) hx (s := (_, _))
  · cases hr
noncomputable def M.laws_toIntS_C {R : Type} (a : List Row) (k : List Row → Option R) : Option R :=
  bif decide (0 ≤ (↑a.length : Int)) && decide ((↑a.length : Int) ≤ (↑a.length : Int)) && decide ((↑a.length : Int) * 8 ≤ 140737488355328) && decide ((↑a.length : Int) ≤ 140737488355328) then
   ((M.laws_toIntS_l3 a ((0, List.replicate (↑a.length : Int).toNat [D.int IntKind.i64 0]))).bind fun t23 => (bif flatRows t23.snd then (k t23.snd) else none)) else none
noncomputable def M.laws_toIntS (a : List Row) : Option (List Row) := M.laws_toIntS_C a some
theorem M.laws_toIntS_n {R : Type} (a : List Row) (k : List Row → Option R) : M.laws_toIntS_C a k = (M.laws_toIntS_C a some).bind k := by
  simp only [M.laws_toIntS_C, bif_bind, bind_bind, some_bind, none_bind, sumE_bind, optE_bind, letE_bind]
noncomputable def K.laws_toIntS : KonC := knil
noncomputable def L.laws_toIntS : LoopC := (lcons 3 (PL.laws_toIntS_l3) lnil)
theorem E.laws_toIntS {R : Type} (a : List Row) (k : List Row → List Cell → Option R) : bodyC X0 (K.laws_toIntS) (L.laws_toIntS) 29 [V.d (D.sl false 1 a)] [] k = M.laws_toIntS_C a (fun r => k [[D.sl true 1 r]] []) := by kernel_rfl
theorem LC.laws_toIntS : loops (codeOf X0.P 29) = [loopCode X0.P 29 3] := by kernel_rfl
theorem C.laws_toIntS : H.laws_toIntS (M.laws_toIntS) := by
  intro a r h
  exact fn_sound (enc := fun r => ([[D.sl true 1 r]], [])) (K := K.laws_toIntS) (L := L.laws_toIntS) (by kernel_rfl) knil_ok (by rw [LC.laws_toIntS]; exact (LOk.cons (LpOk.at (C.laws_toIntS_l3) (fun _ => rfl)) LOk.nil)) (by rw [E.laws_toIntS, M.laws_toIntS_n] <;> rfl) h

/-! laws_toNode -/
def H.laws_toNode (o : Int → Int → List UInt8 → List UInt8 → List Row → Option (Int × Int × List UInt8 × List UInt8 × List Row)) : Prop := ∀ (a : Int) (a1 : Int) (a2 : List UInt8) (a3 : List UInt8) (a4 : List Row) (r : Int × Int × List UInt8 × List UInt8 × List Row), o a a1 a2 a3 a4 = some r → call X0 18 [V.agg [V.d (D.int IntKind.i64 a), V.d (D.int IntKind.i64 a1), V.d (D.str a2), V.d (D.str a3), V.d (D.sl false 1 a4)]] [] = some ([[D.int IntKind.i64 r.fst, D.int IntKind.i64 r.snd.fst, D.str r.snd.snd.fst, D.str r.snd.snd.snd.fst, D.sl true 1 r.snd.snd.snd.snd]], [])
def P.laws_toNode (o : Int → Int → List UInt8 → List UInt8 → List Row → Option (Int × Int × List UInt8 × List UInt8 × List Row)) (q : List V → List Cell → Res (List Row × List Cell)) (a : List V) (c : List Cell) : Res (List Row × List Cell) := match a, c with
  | [V.agg [V.d (D.int IntKind.i64 a), V.d (D.int IntKind.i64 a1), V.d (D.str a2), V.d (D.str a3), V.d (D.sl false 1 a4)]], [] => ⟨Int × Int × List UInt8 × List UInt8 × List Row, o a a1 a2 a3 a4, fun r => ([[D.int IntKind.i64 r.fst, D.int IntKind.i64 r.snd.fst, D.str r.snd.snd.fst, D.str r.snd.snd.snd.fst, D.sl true 1 r.snd.snd.snd.snd]], [])⟩
  | a, c => q a c
theorem P.laws_toNode_ok {o : Int → Int → List UInt8 → List UInt8 → List Row → Option (Int × Int × List UInt8 × List UInt8 × List Row)} {q : List V → List Cell → Res (List Row × List Cell)} (h : H.laws_toNode o) (hq : FnOk X0 18 q) : FnOk X0 18 (P.laws_toNode o q) := by
  intro a c r hr
  unfold P.laws_toNode at hr
  split at hr
  · obtain ⟨x, hx, rfl⟩ := Res.val_some hr
    exact h _ _ _ _ _ x hx
  · exact hq _ _ _ hr
noncomputable def M.laws_toNode_C {R : Type} (a : Int) (a1 : Int) (a2 : List UInt8) (a3 : List UInt8) (a4 : List Row) (k : Int × Int × List UInt8 × List UInt8 × List Row → Option R) : Option R :=
  (M.laws_toIntS a4).bind fun r24 => (bif flatRows r24 then (k ((a, a1, a2, a3, r24))) else none)
noncomputable def M.laws_toNode (a : Int) (a1 : Int) (a2 : List UInt8) (a3 : List UInt8) (a4 : List Row) : Option (Int × Int × List UInt8 × List UInt8 × List Row) := M.laws_toNode_C a a1 a2 a3 a4 some
theorem M.laws_toNode_n {R : Type} (a : Int) (a1 : Int) (a2 : List UInt8) (a3 : List UInt8) (a4 : List Row) (k : Int × Int × List UInt8 × List UInt8 × List Row → Option R) : M.laws_toNode_C a a1 a2 a3 a4 k = (M.laws_toNode_C a a1 a2 a3 a4 some).bind k := by
  simp only [M.laws_toNode_C, bif_bind, bind_bind, some_bind, none_bind, sumE_bind, optE_bind, letE_bind]
noncomputable def K.laws_toNode : KonC := (kcons 29 (P.laws_toIntS M.laws_toIntS pnil) knil)
noncomputable def L.laws_toNode : LoopC := lnil
theorem E.laws_toNode {R : Type} (a : Int) (a1 : Int) (a2 : List UInt8) (a3 : List UInt8) (a4 : List Row) (k : List Row → List Cell → Option R) : bodyC X0 (K.laws_toNode) (L.laws_toNode) 18 [V.agg [V.d (D.int IntKind.i64 a), V.d (D.int IntKind.i64 a1), V.d (D.str a2), V.d (D.str a3), V.d (D.sl false 1 a4)]] [] k = M.laws_toNode_C a a1 a2 a3 a4 (fun r => k [[D.int IntKind.i64 r.fst, D.int IntKind.i64 r.snd.fst, D.str r.snd.snd.fst, D.str r.snd.snd.snd.fst, D.sl true 1 r.snd.snd.snd.snd]] []) := by kernel_rfl
theorem LC.laws_toNode : loops (codeOf X0.P 18) = [] := by kernel_rfl
theorem C.laws_toNode : H.laws_toNode (M.laws_toNode) := by
  intro a a1 a2 a3 a4 r h
  exact fn_sound (enc := fun r => ([[D.int IntKind.i64 r.fst, D.int IntKind.i64 r.snd.fst, D.str r.snd.snd.fst, D.str r.snd.snd.snd.fst, D.sl true 1 r.snd.snd.snd.snd]], [])) (K := K.laws_toNode) (L := L.laws_toNode) (by kernel_rfl) (kcons_ok (P.laws_toIntS_ok C.laws_toIntS pnil_ok) knil_ok) (by rw [LC.laws_toNode]; exact LOk.nil) (by rw [E.laws_toNode, M.laws_toNode_n] <;> rfl) h

/-! laws_toNodeS -/
def H.laws_toNodeS (o : List Row → Option (List Row)) : Prop := ∀ (a : List Row) (r : List Row), o a = some r → call X0 9 [V.d (D.sl false 5 a)] [] = some ([[D.sl true 5 r]], [])
def P.laws_toNodeS (o : List Row → Option (List Row)) (q : List V → List Cell → Res (List Row × List Cell)) (a : List V) (c : List Cell) : Res (List Row × List Cell) := match a, c with
  | [V.d (D.sl false 5 a)], [] => ⟨List Row, o a, fun r => ([[D.sl true 5 r]], [])⟩
  | a, c => q a c
theorem P.laws_toNodeS_ok {o : List Row → Option (List Row)} {q : List V → List Cell → Res (List Row × List Cell)} (h : H.laws_toNodeS o) (hq : FnOk X0 9 q) : FnOk X0 9 (P.laws_toNodeS o q) := by
  intro a c r hr
  unfold P.laws_toNodeS at hr
  split at hr
  · obtain ⟨x, hx, rfl⟩ := Res.val_some hr
    exact h _ x hx
  · exact hq _ _ _ hr
noncomputable def M.laws_toNodeS_l3_C {R : Type} (a : List Row) (s : Int × List Row) (kn : Int × List Row → Option R) (ke : Int × List Row → Option R) : Option R := match s with
  | (i, x') =>
    bif decide (i < (↑a.length : Int)) then
     ((idx a i).bind fun row13 =>
      ((cInt IntKind.i64 row13 0).bind fun n14 =>
       ((cInt IntKind.i64 row13 1).bind fun n15 =>
        ((cStr row13 2).bind fun s16 =>
         ((cStr row13 3).bind fun s17 =>
          ((cSl 1 row13 4).bind fun rows18 =>
           ((M.laws_toNode n14 n15 s16 s17 rows18).bind fun r25 =>
            ((idx x' i).bind fun row26 =>
             (bif flatRows r25.snd.snd.snd.snd then
              (x'[i.toNat]?.bind fun row27 =>
               (kn ((IntKind.i64.wrap (i + 1), x'.set i.toNat (splice row27 0 [D.int IntKind.i64 r25.fst, D.int IntKind.i64 r25.snd.fst, D.str r25.snd.snd.fst, D.str r25.snd.snd.snd.fst, D.sl true 1 r25.snd.snd.snd.snd]))))) else none))))))))) else (ke ((i, x')))
noncomputable def M.laws_toNodeS_l3_b (a : List Row) (s : Int × List Row) : Option ((Int × List Row) ⊕ (Int × List Row)) := M.laws_toNodeS_l3_C a s (fun s => some (.inl s)) (fun t => some (.inr t))
noncomputable def M.laws_toNodeS_l3 (a : List Row) (s : Int × List Row) : Option (Int × List Row) := loopM (M.laws_toNodeS_l3_b a) s
theorem M.laws_toNodeS_l3_n {R : Type} (a : List Row) (s : Int × List Row) (kn : Int × List Row → Option R) (ke : Int × List Row → Option R) : M.laws_toNodeS_l3_C a s kn ke = (M.laws_toNodeS_l3_b a s).bind fun r => match r with | .inl s => kn s | .inr t => ke t := by
  obtain ⟨i, x'⟩ := s
  all_goals
    simp only [M.laws_toNodeS_l3_b, M.laws_toNodeS_l3_C, bif_bind, bind_bind, some_bind, none_bind, sumE_bind, optE_bind, letE_bind]
def A.laws_toNodeS_l3 (a : List Row) : Alt (Ex × St) := .leaf (Int × List Row) (fun t => (Ex.exit 0, { tm := [(0, V.d (D.sl false 5 a)), (3, V.own 300000 0), (4, V.d (D.int IntKind.i64 t.fst)), (11, V.d (D.bool false))], mem := [(300000, Cell.arr false false 0 5 t.snd)] }))
def T.laws_toNodeS_l3 (a : List Row) (s : Int × List Row) : St := match s with
  | (i, x') => { tm := [(0, V.d (D.sl false 5 a)), (3, V.own 300000 0), (4, V.d (D.int IntKind.i64 i))], mem := [(300000, Cell.arr false false 0 5 x')] }
noncomputable def K.laws_toNodeS_l3 : KonC := (kcons 18 (P.laws_toNode M.laws_toNode pnil) knil)
noncomputable def L.laws_toNodeS_l3 : LoopC := lnil
theorem E.laws_toNodeS_l3 {R : Type} (a : List Row) (s : Int × List Row) (k : Ex → St → Option R) : denC X0 (K.laws_toNodeS_l3) (L.laws_toNodeS_l3) 9 (loopCode X0.P 9 3) (T.laws_toNodeS_l3 a s) k = M.laws_toNodeS_l3_C a s (fun s => k .normal (T.laws_toNodeS_l3 a s)) (fun t => (A.laws_toNodeS_l3 a).go t fun r => k r.1 r.2) := by
  obtain ⟨i, x'⟩ := s
  all_goals kernel_rfl
theorem LC.laws_toNodeS_l3 : loops (loopCode X0.P 9 3) = [] := by kernel_rfl
noncomputable def PL.laws_toNodeS_l3 (S : St) : ResA (Ex × St) := match S with
  | { tm := [(0, V.d (D.sl false 5 a)), (3, V.own 300000 0), (4, V.d (D.int IntKind.i64 i))], mem := [(300000, Cell.arr false false 0 5 x')] } => ⟨A.laws_toNodeS_l3 a, M.laws_toNodeS_l3 a ((i, x'))⟩
  | _ => .none
theorem C.laws_toNodeS_l3 : LpOk X0 9 3 (loopCode X0.P 9 3) (PL.laws_toNodeS_l3) := by
  refine ⟨by kernel_rfl, fun S r hr => ?_⟩
  unfold PL.laws_toNodeS_l3 at hr
  split at hr
  · obtain ⟨x, hx, rfl⟩ := ResA.val_some hr
    exact lp_sound (K := K.laws_toNodeS_l3) (L := L.laws_toNodeS_l3) (b := M.laws_toNodeS_l3_b _) (tm := T.laws_toNodeS_l3 _) (tx := (A.laws_toNodeS_l3 _).enc) (kcons_ok (P.laws_toNode_ok C.laws_toNode pnil_ok) knil_ok) (by rw [LC.laws_toNodeS_l3]; exact LOk.nil) (fun s => by rw [E.laws_toNodeS_l3, M.laws_toNodeS_l3_n]; congr 1; funext r; cases r <;> first | rfl | exact Alt.go_eq _ _ _) (by intro t; intro h; cases h) hx (s := (_, _))
  · cases hr
noncomputable def M.laws_toNodeS_C {R : Type} (a : List Row) (k : List Row → Option R) : Option R :=
  bif decide (0 ≤ (↑a.length : Int)) && decide ((↑a.length : Int) ≤ (↑a.length : Int)) && decide ((↑a.length : Int) * 72 ≤ 140737488355328) && decide ((↑a.length : Int) ≤ 140737488355328) then
   ((M.laws_toNodeS_l3 a ((0, List.replicate (↑a.length : Int).toNat [D.int IntKind.i64 0, D.int IntKind.i64 0, D.str [], D.str [], D.sl true 1 []]))).bind fun t28 => (k t28.snd)) else none
noncomputable def M.laws_toNodeS (a : List Row) : Option (List Row) := M.laws_toNodeS_C a some
theorem M.laws_toNodeS_n {R : Type} (a : List Row) (k : List Row → Option R) : M.laws_toNodeS_C a k = (M.laws_toNodeS_C a some).bind k := by
  simp only [M.laws_toNodeS_C, bif_bind, bind_bind, some_bind, none_bind, sumE_bind, optE_bind, letE_bind]
noncomputable def K.laws_toNodeS : KonC := knil
noncomputable def L.laws_toNodeS : LoopC := (lcons 3 (PL.laws_toNodeS_l3) lnil)
theorem E.laws_toNodeS {R : Type} (a : List Row) (k : List Row → List Cell → Option R) : bodyC X0 (K.laws_toNodeS) (L.laws_toNodeS) 9 [V.d (D.sl false 5 a)] [] k = M.laws_toNodeS_C a (fun r => k [[D.sl true 5 r]] []) := by kernel_rfl
theorem LC.laws_toNodeS : loops (codeOf X0.P 9) = [loopCode X0.P 9 3] := by kernel_rfl
theorem C.laws_toNodeS : H.laws_toNodeS (M.laws_toNodeS) := by
  intro a r h
  exact fn_sound (enc := fun r => ([[D.sl true 5 r]], [])) (K := K.laws_toNodeS) (L := L.laws_toNodeS) (by kernel_rfl) knil_ok (by rw [LC.laws_toNodeS]; exact (LOk.cons (LpOk.at (C.laws_toNodeS_l3) (fun _ => rfl)) LOk.nil)) (by rw [E.laws_toNodeS, M.laws_toNodeS_n] <;> rfl) h

/-! spec_l1In -/
def H.spec_l1In (o : Int → Int → Int → Option (Bool)) : Prop := ∀ (x' : Int) (low : Int) (high : Int) (r : Bool), o x' low high = some r → call X0 51 [V.d (D.int IntKind.i64 x'), V.d (D.int IntKind.i64 low), V.d (D.int IntKind.i64 high)] [] = some ([[D.bool r]], [])
def P.spec_l1In (o : Int → Int → Int → Option (Bool)) (q : List V → List Cell → Res (List Row × List Cell)) (a : List V) (c : List Cell) : Res (List Row × List Cell) := match a, c with
  | [V.d (D.int IntKind.i64 x'), V.d (D.int IntKind.i64 low), V.d (D.int IntKind.i64 high)], [] => ⟨Bool, o x' low high, fun r => ([[D.bool r]], [])⟩
  | a, c => q a c
theorem P.spec_l1In_ok {o : Int → Int → Int → Option (Bool)} {q : List V → List Cell → Res (List Row × List Cell)} (h : H.spec_l1In o) (hq : FnOk X0 51 q) : FnOk X0 51 (P.spec_l1In o q) := by
  intro a c r hr
  unfold P.spec_l1In at hr
  split at hr
  · obtain ⟨x, hx, rfl⟩ := Res.val_some hr
    exact h _ _ _ x hx
  · exact hq _ _ _ hr
noncomputable def M.spec_l1In_C {R : Type} (x' : Int) (low : Int) (high : Int) (k : Bool → Option R) : Option R :=
  bif decide (x' ≥ low) then (k (decide (x' ≤ high))) else (k false)
noncomputable def M.spec_l1In (x' : Int) (low : Int) (high : Int) : Option (Bool) := M.spec_l1In_C x' low high some
theorem M.spec_l1In_n {R : Type} (x' : Int) (low : Int) (high : Int) (k : Bool → Option R) : M.spec_l1In_C x' low high k = (M.spec_l1In_C x' low high some).bind k := by
  simp only [M.spec_l1In_C, bif_bind, bind_bind, some_bind, none_bind, sumE_bind, optE_bind, letE_bind]
noncomputable def K.spec_l1In : KonC := knil
noncomputable def L.spec_l1In : LoopC := lnil
theorem E.spec_l1In {R : Type} (x' : Int) (low : Int) (high : Int) (k : List Row → List Cell → Option R) : bodyC X0 (K.spec_l1In) (L.spec_l1In) 51 [V.d (D.int IntKind.i64 x'), V.d (D.int IntKind.i64 low), V.d (D.int IntKind.i64 high)] [] k = M.spec_l1In_C x' low high (fun r => k [[D.bool r]] []) := by kernel_rfl
theorem LC.spec_l1In : loops (codeOf X0.P 51) = [] := by kernel_rfl
theorem C.spec_l1In : H.spec_l1In (M.spec_l1In) := by
  intro x' low high r h
  exact fn_sound (enc := fun r => ([[D.bool r]], [])) (K := K.spec_l1In) (L := L.spec_l1In) (by kernel_rfl) knil_ok (by rw [LC.spec_l1In]; exact LOk.nil) (by rw [E.spec_l1In, M.spec_l1In_n] <;> rfl) h

/-! spec_l6Starts -/
def H.spec_l6Starts (o : List Row → Option (List Row × Bool)) : Prop := ∀ (l : List Row) (r : List Row × Bool), o l = some r → call X0 52 [V.d (D.sl false 5 l)] [] = some ([[D.sl true 1 r.fst], [D.bool r.snd]], [])
def P.spec_l6Starts (o : List Row → Option (List Row × Bool)) (q : List V → List Cell → Res (List Row × List Cell)) (a : List V) (c : List Cell) : Res (List Row × List Cell) := match a, c with
  | [V.d (D.sl false 5 l)], [] => ⟨List Row × Bool, o l, fun r => ([[D.sl true 1 r.fst], [D.bool r.snd]], [])⟩
  | a, c => q a c
theorem P.spec_l6Starts_ok {o : List Row → Option (List Row × Bool)} {q : List V → List Cell → Res (List Row × List Cell)} (h : H.spec_l6Starts o) (hq : FnOk X0 52 q) : FnOk X0 52 (P.spec_l6Starts o q) := by
  intro a c r hr
  unfold P.spec_l6Starts at hr
  split at hr
  · obtain ⟨x, hx, rfl⟩ := Res.val_some hr
    exact h _ x hx
  · exact hq _ _ _ hr
noncomputable def M.spec_l6Starts_l7_C {R : Type} (l : List Row) (i : Int) (x' : List Row) (s : Int × Int) (kn : Int × Int → Option R) (ke : (Unit) ⊕ (Int × Int) → Option R) : Option R := match s with
  | (at', k') =>
    bif decide (k' ≥ 0) then
     ((idx l i).bind fun row33 =>
      ((cSl 1 row33 4).bind fun rows34 =>
       ((idx rows34 k').bind fun row35 =>
        ((cInt IntKind.i64 row35 0).bind fun n36 =>
         (bif n36 != IntKind.i64.wrap (at' - 1) then (ke (.inl ())) else
          (bif at' == 0 then (ke (.inl ())) else
           ((idx x' (IntKind.i64.wrap (at' - 1))).bind fun row37 =>
            ((x'[(IntKind.i64.wrap (at' - 1)).toNat]?).bind fun row38 => ((cInt IntKind.i64 row38 0).bind fun n39 => (kn ((n39, IntKind.i64.wrap (k' - 1))))))))))))) else (ke (.inr ((at', k'))))
noncomputable def M.spec_l6Starts_l7_b (l : List Row) (i : Int) (x' : List Row) (s : Int × Int) : Option ((Int × Int) ⊕ ((Unit) ⊕ (Int × Int))) := M.spec_l6Starts_l7_C l i x' s (fun s => some (.inl s)) (fun t => some (.inr t))
noncomputable def M.spec_l6Starts_l7 (l : List Row) (i : Int) (x' : List Row) (s : Int × Int) : Option ((Unit) ⊕ (Int × Int)) := loopM (M.spec_l6Starts_l7_b l i x') s
theorem M.spec_l6Starts_l7_n {R : Type} (l : List Row) (i : Int) (x' : List Row) (s : Int × Int) (kn : Int × Int → Option R) (ke : (Unit) ⊕ (Int × Int) → Option R) : M.spec_l6Starts_l7_C l i x' s kn ke = (M.spec_l6Starts_l7_b l i x' s).bind fun r => match r with | .inl s => kn s | .inr t => ke t := by
  obtain ⟨at', k'⟩ := s
  all_goals
    simp only [M.spec_l6Starts_l7_b, M.spec_l6Starts_l7_C, bif_bind, bind_bind, some_bind, none_bind, sumE_bind, optE_bind, letE_bind]
def A.spec_l6Starts_l7 (l : List Row) (i : Int) (x' : List Row) : Alt (Ex × St) := .sum (.leaf (Unit) (fun t => (Ex.ret, { tm := [(2, V.own 300000 0), (3, V.d (D.bool false))], mem := [(300000, Cell.arr false true 0 1 [])] }))) (.leaf (Int × Int) (fun t => (Ex.exit 2, { tm := [(0, V.d (D.sl false 5 l)), (4, V.own 300000 0), (5, V.d (D.int IntKind.i64 i)), (6, V.d (D.int IntKind.i64 t.fst)), (7, V.d (D.int IntKind.i64 t.snd)), (24, V.d (D.bool false))], mem := [(300000, Cell.arr false true 0 1 x')] })))
def T.spec_l6Starts_l7 (l : List Row) (i : Int) (x' : List Row) (s : Int × Int) : St := match s with
  | (at', k') => { tm := [(0, V.d (D.sl false 5 l)), (4, V.own 300000 0), (5, V.d (D.int IntKind.i64 i)), (6, V.d (D.int IntKind.i64 at')), (7, V.d (D.int IntKind.i64 k'))], mem := [(300000, Cell.arr false true 0 1 x')] }
noncomputable def K.spec_l6Starts_l7 : KonC := knil
noncomputable def L.spec_l6Starts_l7 : LoopC := lnil
theorem E.spec_l6Starts_l7 {R : Type} (l : List Row) (i : Int) (x' : List Row) (s : Int × Int) (k : Ex → St → Option R) : denC X0 (K.spec_l6Starts_l7) (L.spec_l6Starts_l7) 52 (loopCode X0.P 52 7) (T.spec_l6Starts_l7 l i x' s) k = M.spec_l6Starts_l7_C l i x' s (fun s => k .normal (T.spec_l6Starts_l7 l i x' s)) (fun t => (A.spec_l6Starts_l7 l i x').go t fun r => k r.1 r.2) := by
  obtain ⟨at', k'⟩ := s
  all_goals kernel_rfl
theorem LC.spec_l6Starts_l7 : loops (loopCode X0.P 52 7) = [] := by kernel_rfl
noncomputable def PL.spec_l6Starts_l7 (S : St) : ResA (Ex × St) := match S with
  | { tm := [(0, V.d (D.sl false 5 l)), (4, V.own 300000 0), (5, V.d (D.int IntKind.i64 i)), (6, V.d (D.int IntKind.i64 at')), (7, V.d (D.int IntKind.i64 k'))], mem := [(300000, Cell.arr false true 0 1 x')] } => ⟨A.spec_l6Starts_l7 l i x', M.spec_l6Starts_l7 l i x' ((at', k'))⟩
  | _ => .none
theorem C.spec_l6Starts_l7 : LpOk X0 52 7 (loopCode X0.P 52 7) (PL.spec_l6Starts_l7) := by
  refine ⟨by kernel_rfl, fun S r hr => ?_⟩
  unfold PL.spec_l6Starts_l7 at hr
  split at hr
  · obtain ⟨x, hx, rfl⟩ := ResA.val_some hr
    exact lp_sound (K := K.spec_l6Starts_l7) (L := L.spec_l6Starts_l7) (b := M.spec_l6Starts_l7_b _ _ _) (tm := T.spec_l6Starts_l7 _ _ _) (tx := (A.spec_l6Starts_l7 _ _ _).enc) knil_ok (by rw [LC.spec_l6Starts_l7]; exact LOk.nil) (fun s => by rw [E.spec_l6Starts_l7, M.spec_l6Starts_l7_n]; congr 1; funext r; cases r <;> first | rfl | exact Alt.go_eq _ _ _) (by intro t; rcases t with t | t <;> first | (intro h; cases h) | (intro h; cases h)) hx (s := (_, _))
  · cases hr
noncomputable def M.spec_l6Starts_l3_C {R : Type} (l : List Row) (s : Int × List Row) (kn : Int × List Row → Option R) (ke : (Unit) ⊕ (Int × List Row) → Option R) : Option R := match s with
  | (i, x') =>
    bif decide (i < (↑l.length : Int)) then
     ((idx l i).bind fun row31 =>
      ((cSl 1 row31 4).bind fun rows32 =>
       ((M.spec_l6Starts_l7 l i x' ((i, IntKind.i64.wrap ((↑rows32.length : Int) - 1)))).bind fun u44 =>
       sumE u44 (fun t40 => (ke (.inl ()))) fun u45 =>
        letE u45 fun t41 =>
         (bif ((x'.length + [[D.int IntKind.i64 t41.fst]].length) * 8).ble 140737488355328 then
          (bif (x'.length + [[D.int IntKind.i64 t41.fst]].length).ble 140737488355328 then (kn ((IntKind.i64.wrap (i + 1), x' ++ [[D.int IntKind.i64 t41.fst]]))) else none) else none)))) else (ke (.inr ((i, x'))))
noncomputable def M.spec_l6Starts_l3_b (l : List Row) (s : Int × List Row) : Option ((Int × List Row) ⊕ ((Unit) ⊕ (Int × List Row))) := M.spec_l6Starts_l3_C l s (fun s => some (.inl s)) (fun t => some (.inr t))
noncomputable def M.spec_l6Starts_l3 (l : List Row) (s : Int × List Row) : Option ((Unit) ⊕ (Int × List Row)) := loopM (M.spec_l6Starts_l3_b l) s
theorem M.spec_l6Starts_l3_n {R : Type} (l : List Row) (s : Int × List Row) (kn : Int × List Row → Option R) (ke : (Unit) ⊕ (Int × List Row) → Option R) : M.spec_l6Starts_l3_C l s kn ke = (M.spec_l6Starts_l3_b l s).bind fun r => match r with | .inl s => kn s | .inr t => ke t := by
  obtain ⟨i, x'⟩ := s
  all_goals
    simp only [M.spec_l6Starts_l3_b, M.spec_l6Starts_l3_C, bif_bind, bind_bind, some_bind, none_bind, sumE_bind, optE_bind, letE_bind]
def A.spec_l6Starts_l3 (l : List Row) : Alt (Ex × St) := .sum (.leaf (Unit) (fun t => (Ex.ret, { tm := [(2, V.own 300000 0), (3, V.d (D.bool false))], mem := [(300000, Cell.arr false true 0 1 [])] }))) (.leaf (Int × List Row) (fun t => (Ex.exit 0, { tm := [(0, V.d (D.sl false 5 l)), (4, V.own 300000 0), (5, V.d (D.int IntKind.i64 t.fst)), (12, V.d (D.bool false))], mem := [(300000, Cell.arr false true 0 1 t.snd)] })))
def T.spec_l6Starts_l3 (l : List Row) (s : Int × List Row) : St := match s with
  | (i, x') => { tm := [(0, V.d (D.sl false 5 l)), (4, V.own 300000 0), (5, V.d (D.int IntKind.i64 i))], mem := [(300000, Cell.arr false true 0 1 x')] }
noncomputable def K.spec_l6Starts_l3 : KonC := knil
noncomputable def L.spec_l6Starts_l3 : LoopC := (lcons 7 (PL.spec_l6Starts_l7) lnil)
theorem E.spec_l6Starts_l3 {R : Type} (l : List Row) (s : Int × List Row) (k : Ex → St → Option R) : denC X0 (K.spec_l6Starts_l3) (L.spec_l6Starts_l3) 52 (loopCode X0.P 52 3) (T.spec_l6Starts_l3 l s) k = M.spec_l6Starts_l3_C l s (fun s => k .normal (T.spec_l6Starts_l3 l s)) (fun t => (A.spec_l6Starts_l3 l).go t fun r => k r.1 r.2) := by
  obtain ⟨i, x'⟩ := s
  all_goals kernel_rfl
theorem LC.spec_l6Starts_l3 : loops (loopCode X0.P 52 3) = [loopCode X0.P 52 7] := by kernel_rfl
noncomputable def PL.spec_l6Starts_l3 (S : St) : ResA (Ex × St) := match S with
  | { tm := [(0, V.d (D.sl false 5 l)), (4, V.own 300000 0), (5, V.d (D.int IntKind.i64 i))], mem := [(300000, Cell.arr false true 0 1 x')] } => ⟨A.spec_l6Starts_l3 l, M.spec_l6Starts_l3 l ((i, x'))⟩
  | _ => .none
theorem C.spec_l6Starts_l3 : LpOk X0 52 3 (loopCode X0.P 52 3) (PL.spec_l6Starts_l3) := by
  refine ⟨by kernel_rfl, fun S r hr => ?_⟩
  unfold PL.spec_l6Starts_l3 at hr
  split at hr
  · obtain ⟨x, hx, rfl⟩ := ResA.val_some hr
    exact lp_sound (K := K.spec_l6Starts_l3) (L := L.spec_l6Starts_l3) (b := M.spec_l6Starts_l3_b _) (tm := T.spec_l6Starts_l3 _) (tx := (A.spec_l6Starts_l3 _).enc) knil_ok (by rw [LC.spec_l6Starts_l3]; exact (LOk.cons (LpOk.at (C.spec_l6Starts_l7) (fun _ => rfl)) LOk.nil)) (fun s => by rw [E.spec_l6Starts_l3, M.spec_l6Starts_l3_n]; congr 1; funext r; cases r <;> first | rfl | exact Alt.go_eq _ _ _) (by intro t; rcases t with t | t <;> first | (intro h; cases h) | (intro h; cases h)) hx (s := (_, _))
  · cases hr
noncomputable def M.spec_l6Starts_C {R : Type} (l : List Row) (k : List Row × Bool → Option R) : Option R :=
  (M.spec_l6Starts_l3 l ((0, []))).bind fun u46 =>
  sumE u46 (fun t42 => (k (([], false)))) fun u47 =>
   letE u47 fun t43 => (bif flatRows t43.snd then (k ((t43.snd, true))) else none)
noncomputable def M.spec_l6Starts (l : List Row) : Option (List Row × Bool) := M.spec_l6Starts_C l some
theorem M.spec_l6Starts_n {R : Type} (l : List Row) (k : List Row × Bool → Option R) : M.spec_l6Starts_C l k = (M.spec_l6Starts_C l some).bind k := by
  simp only [M.spec_l6Starts_C, bif_bind, bind_bind, some_bind, none_bind, sumE_bind, optE_bind, letE_bind]
noncomputable def K.spec_l6Starts : KonC := knil
noncomputable def L.spec_l6Starts : LoopC := (lcons 3 (PL.spec_l6Starts_l3) lnil)
theorem E.spec_l6Starts {R : Type} (l : List Row) (k : List Row → List Cell → Option R) : bodyC X0 (K.spec_l6Starts) (L.spec_l6Starts) 52 [V.d (D.sl false 5 l)] [] k = M.spec_l6Starts_C l (fun r => k [[D.sl true 1 r.fst], [D.bool r.snd]] []) := by kernel_rfl
theorem LC.spec_l6Starts : loops (codeOf X0.P 52) = [loopCode X0.P 52 3] := by kernel_rfl
theorem C.spec_l6Starts : H.spec_l6Starts (M.spec_l6Starts) := by
  intro l r h
  exact fn_sound (enc := fun r => ([[D.sl true 1 r.fst], [D.bool r.snd]], [])) (K := K.spec_l6Starts) (L := L.spec_l6Starts) (by kernel_rfl) knil_ok (by rw [LC.spec_l6Starts]; exact (LOk.cons (LpOk.at (C.spec_l6Starts_l3) (fun _ => rfl)) LOk.nil)) (by rw [E.spec_l6Starts, M.spec_l6Starts_n] <;> rfl) h

/-! spec_ShapeOk -/
def H.spec_ShapeOk (o : List Row → Option (Bool)) : Prop := ∀ (l : List Row) (r : Bool), o l = some r → call X0 36 [V.d (D.sl false 5 l)] [] = some ([[D.bool r]], [])
def P.spec_ShapeOk (o : List Row → Option (Bool)) (q : List V → List Cell → Res (List Row × List Cell)) (a : List V) (c : List Cell) : Res (List Row × List Cell) := match a, c with
  | [V.d (D.sl false 5 l)], [] => ⟨Bool, o l, fun r => ([[D.bool r]], [])⟩
  | a, c => q a c
theorem P.spec_ShapeOk_ok {o : List Row → Option (Bool)} {q : List V → List Cell → Res (List Row × List Cell)} (h : H.spec_ShapeOk o) (hq : FnOk X0 36 q) : FnOk X0 36 (P.spec_ShapeOk o q) := by
  intro a c r hr
  unfold P.spec_ShapeOk at hr
  split at hr
  · obtain ⟨x, hx, rfl⟩ := Res.val_some hr
    exact h _ x hx
  · exact hq _ _ _ hr
noncomputable def M.spec_ShapeOk_C {R : Type} (l : List Row) (k : Bool → Option R) : Option R :=
  (M.spec_l1In ((↑l.length : Int)) 1 400).bind fun r30 =>
   (bif !r30 then (k false) else
    ((M.spec_l6Starts l).bind fun r48 =>
     (bif r48.snd then
      ((idx r48.fst (IntKind.i64.wrap ((↑l.length : Int) - 1))).bind fun row49 =>
       ((r48.fst[(IntKind.i64.wrap ((↑l.length : Int) - 1)).toNat]?).bind fun row50 => ((cInt IntKind.i64 row50 0).bind fun n51 => (k (n51 == 0))))) else (k false))))
noncomputable def M.spec_ShapeOk (l : List Row) : Option (Bool) := M.spec_ShapeOk_C l some
theorem M.spec_ShapeOk_n {R : Type} (l : List Row) (k : Bool → Option R) : M.spec_ShapeOk_C l k = (M.spec_ShapeOk_C l some).bind k := by
  simp only [M.spec_ShapeOk_C, bif_bind, bind_bind, some_bind, none_bind, sumE_bind, optE_bind, letE_bind]
noncomputable def K.spec_ShapeOk : KonC := (kcons 51 (P.spec_l1In M.spec_l1In pnil) (kcons 52 (P.spec_l6Starts M.spec_l6Starts pnil) knil))
noncomputable def L.spec_ShapeOk : LoopC := lnil
theorem E.spec_ShapeOk {R : Type} (l : List Row) (k : List Row → List Cell → Option R) : bodyC X0 (K.spec_ShapeOk) (L.spec_ShapeOk) 36 [V.d (D.sl false 5 l)] [] k = M.spec_ShapeOk_C l (fun r => k [[D.bool r]] []) := by kernel_rfl
theorem LC.spec_ShapeOk : loops (codeOf X0.P 36) = [] := by kernel_rfl
theorem C.spec_ShapeOk : H.spec_ShapeOk (M.spec_ShapeOk) := by
  intro l r h
  exact fn_sound (enc := fun r => ([[D.bool r]], [])) (K := K.spec_ShapeOk) (L := L.spec_ShapeOk) (by kernel_rfl) (kcons_ok (P.spec_l1In_ok C.spec_l1In pnil_ok) (kcons_ok (P.spec_l6Starts_ok C.spec_l6Starts pnil_ok) knil_ok)) (by rw [LC.spec_ShapeOk]; exact LOk.nil) (by rw [E.spec_ShapeOk, M.spec_ShapeOk_n] <;> rfl) h

/-! spec_DepthOf -/
def H.spec_DepthOf (o : List Row → Option (Int)) : Prop := ∀ (l : List Row) (r : Int), o l = some r → call X0 37 [V.d (D.sl false 5 l)] [] = some ([[D.int IntKind.i64 r]], [])
def P.spec_DepthOf (o : List Row → Option (Int)) (q : List V → List Cell → Res (List Row × List Cell)) (a : List V) (c : List Cell) : Res (List Row × List Cell) := match a, c with
  | [V.d (D.sl false 5 l)], [] => ⟨Int, o l, fun r => ([[D.int IntKind.i64 r]], [])⟩
  | a, c => q a c
theorem P.spec_DepthOf_ok {o : List Row → Option (Int)} {q : List V → List Cell → Res (List Row × List Cell)} (h : H.spec_DepthOf o) (hq : FnOk X0 37 q) : FnOk X0 37 (P.spec_DepthOf o q) := by
  intro a c r hr
  unfold P.spec_DepthOf at hr
  split at hr
  · obtain ⟨x, hx, rfl⟩ := Res.val_some hr
    exact h _ x hx
  · exact hq _ _ _ hr
noncomputable def M.spec_DepthOf_l9_C {R : Type} (l : List Row) (i : Int) (x' : List Row) (s : Int × Int) (kn : Int × Int → Option R) (ke : Int × Int → Option R) : Option R := match s with
  | (n', k') =>
    (idx l i).bind fun row54 =>
     ((cSl 1 row54 4).bind fun rows55 =>
      (bif decide (k' < (↑rows55.length : Int)) then
       ((idx l i).bind fun row56 =>
        ((cSl 1 row56 4).bind fun rows57 =>
         ((idx rows57 k').bind fun row58 =>
          ((cInt IntKind.i64 row58 0).bind fun n59 =>
           ((idx x' n59).bind fun row60 =>
            (x'[n59.toNat]?.bind fun row61 =>
             ((cInt IntKind.i64 row61 0).bind fun n62 =>
              (kn ((bif decide (n' < IntKind.i64.wrap (1 + n62)) then IntKind.i64.wrap (1 + n62) else n', IntKind.i64.wrap (k' + 1))))))))))) else (ke ((n', k')))))
noncomputable def M.spec_DepthOf_l9_b (l : List Row) (i : Int) (x' : List Row) (s : Int × Int) : Option ((Int × Int) ⊕ (Int × Int)) := M.spec_DepthOf_l9_C l i x' s (fun s => some (.inl s)) (fun t => some (.inr t))
noncomputable def M.spec_DepthOf_l9 (l : List Row) (i : Int) (x' : List Row) (s : Int × Int) : Option (Int × Int) := loopM (M.spec_DepthOf_l9_b l i x') s
theorem M.spec_DepthOf_l9_n {R : Type} (l : List Row) (i : Int) (x' : List Row) (s : Int × Int) (kn : Int × Int → Option R) (ke : Int × Int → Option R) : M.spec_DepthOf_l9_C l i x' s kn ke = (M.spec_DepthOf_l9_b l i x' s).bind fun r => match r with | .inl s => kn s | .inr t => ke t := by
  obtain ⟨n', k'⟩ := s
  all_goals
    simp only [M.spec_DepthOf_l9_b, M.spec_DepthOf_l9_C, bif_bind, bind_bind, some_bind, none_bind, sumE_bind, optE_bind, letE_bind]
def A.spec_DepthOf_l9 (l : List Row) (i : Int) (x' : List Row) : Alt (Ex × St) := .leaf (Int × Int) (fun t => (Ex.exit 2, { tm := [(0, V.d (D.sl false 5 l)), (3, V.own 300000 0), (4, V.d (D.int IntKind.i64 i)), (5, V.d (D.int IntKind.i64 t.fst)), (6, V.d (D.int IntKind.i64 t.snd)), (24, V.d (D.bool false))], mem := [(300000, Cell.arr false true 0 1 x')] }))
def T.spec_DepthOf_l9 (l : List Row) (i : Int) (x' : List Row) (s : Int × Int) : St := match s with
  | (n', k') => { tm := [(0, V.d (D.sl false 5 l)), (3, V.own 300000 0), (4, V.d (D.int IntKind.i64 i)), (5, V.d (D.int IntKind.i64 n')), (6, V.d (D.int IntKind.i64 k'))], mem := [(300000, Cell.arr false true 0 1 x')] }
noncomputable def K.spec_DepthOf_l9 : KonC := knil
noncomputable def L.spec_DepthOf_l9 : LoopC := lnil
theorem E.spec_DepthOf_l9 {R : Type} (l : List Row) (i : Int) (x' : List Row) (s : Int × Int) (k : Ex → St → Option R) : denC X0 (K.spec_DepthOf_l9) (L.spec_DepthOf_l9) 37 (loopCode X0.P 37 9) (T.spec_DepthOf_l9 l i x' s) k = M.spec_DepthOf_l9_C l i x' s (fun s => k .normal (T.spec_DepthOf_l9 l i x' s)) (fun t => (A.spec_DepthOf_l9 l i x').go t fun r => k r.1 r.2) := by
  obtain ⟨n', k'⟩ := s
  all_goals kernel_rfl
theorem LC.spec_DepthOf_l9 : loops (loopCode X0.P 37 9) = [] := by kernel_rfl
noncomputable def PL.spec_DepthOf_l9 (S : St) : ResA (Ex × St) := match S with
  | { tm := [(0, V.d (D.sl false 5 l)), (3, V.own 300000 0), (4, V.d (D.int IntKind.i64 i)), (5, V.d (D.int IntKind.i64 n')), (6, V.d (D.int IntKind.i64 k'))], mem := [(300000, Cell.arr false true 0 1 x')] } => ⟨A.spec_DepthOf_l9 l i x', M.spec_DepthOf_l9 l i x' ((n', k'))⟩
  | _ => .none
theorem C.spec_DepthOf_l9 : LpOk X0 37 9 (loopCode X0.P 37 9) (PL.spec_DepthOf_l9) := by
  refine ⟨by kernel_rfl, fun S r hr => ?_⟩
  unfold PL.spec_DepthOf_l9 at hr
  split at hr
  · obtain ⟨x, hx, rfl⟩ := ResA.val_some hr
    exact lp_sound (K := K.spec_DepthOf_l9) (L := L.spec_DepthOf_l9) (b := M.spec_DepthOf_l9_b _ _ _) (tm := T.spec_DepthOf_l9 _ _ _) (tx := (A.spec_DepthOf_l9 _ _ _).enc) knil_ok (by rw [LC.spec_DepthOf_l9]; exact LOk.nil) (fun s => by rw [E.spec_DepthOf_l9, M.spec_DepthOf_l9_n]; congr 1; funext r; cases r <;> first | rfl | exact Alt.go_eq _ _ _) (by intro t; intro h; cases h) hx (s := (_, _))
  · cases hr
noncomputable def M.spec_DepthOf_l5_C {R : Type} (l : List Row) (s : Int × List Row) (kn : Int × List Row → Option R) (ke : Int × List Row → Option R) : Option R := match s with
  | (i, x') =>
    bif decide (i < (↑l.length : Int)) then
     ((M.spec_DepthOf_l9 l i x' ((1, 0))).bind fun t63 =>
      (bif ((x'.length + [[D.int IntKind.i64 t63.fst]].length) * 8).ble 140737488355328 then
       (bif (x'.length + [[D.int IntKind.i64 t63.fst]].length).ble 140737488355328 then (kn ((IntKind.i64.wrap (i + 1), x' ++ [[D.int IntKind.i64 t63.fst]]))) else none) else none)) else (ke ((i, x')))
noncomputable def M.spec_DepthOf_l5_b (l : List Row) (s : Int × List Row) : Option ((Int × List Row) ⊕ (Int × List Row)) := M.spec_DepthOf_l5_C l s (fun s => some (.inl s)) (fun t => some (.inr t))
noncomputable def M.spec_DepthOf_l5 (l : List Row) (s : Int × List Row) : Option (Int × List Row) := loopM (M.spec_DepthOf_l5_b l) s
theorem M.spec_DepthOf_l5_n {R : Type} (l : List Row) (s : Int × List Row) (kn : Int × List Row → Option R) (ke : Int × List Row → Option R) : M.spec_DepthOf_l5_C l s kn ke = (M.spec_DepthOf_l5_b l s).bind fun r => match r with | .inl s => kn s | .inr t => ke t := by
  obtain ⟨i, x'⟩ := s
  all_goals
    simp only [M.spec_DepthOf_l5_b, M.spec_DepthOf_l5_C, bif_bind, bind_bind, some_bind, none_bind, sumE_bind, optE_bind, letE_bind]
def A.spec_DepthOf_l5 (l : List Row) : Alt (Ex × St) := .leaf (Int × List Row) (fun t => (Ex.exit 0, { tm := [(0, V.d (D.sl false 5 l)), (3, V.own 300000 0), (4, V.d (D.int IntKind.i64 t.fst)), (14, V.d (D.bool false))], mem := [(300000, Cell.arr false true 0 1 t.snd)] }))
def T.spec_DepthOf_l5 (l : List Row) (s : Int × List Row) : St := match s with
  | (i, x') => { tm := [(0, V.d (D.sl false 5 l)), (3, V.own 300000 0), (4, V.d (D.int IntKind.i64 i))], mem := [(300000, Cell.arr false true 0 1 x')] }
noncomputable def K.spec_DepthOf_l5 : KonC := knil
noncomputable def L.spec_DepthOf_l5 : LoopC := (lcons 9 (PL.spec_DepthOf_l9) lnil)
theorem E.spec_DepthOf_l5 {R : Type} (l : List Row) (s : Int × List Row) (k : Ex → St → Option R) : denC X0 (K.spec_DepthOf_l5) (L.spec_DepthOf_l5) 37 (loopCode X0.P 37 5) (T.spec_DepthOf_l5 l s) k = M.spec_DepthOf_l5_C l s (fun s => k .normal (T.spec_DepthOf_l5 l s)) (fun t => (A.spec_DepthOf_l5 l).go t fun r => k r.1 r.2) := by
  obtain ⟨i, x'⟩ := s
  all_goals kernel_rfl
theorem LC.spec_DepthOf_l5 : loops (loopCode X0.P 37 5) = [loopCode X0.P 37 9] := by kernel_rfl
noncomputable def PL.spec_DepthOf_l5 (S : St) : ResA (Ex × St) := match S with
  | { tm := [(0, V.d (D.sl false 5 l)), (3, V.own 300000 0), (4, V.d (D.int IntKind.i64 i))], mem := [(300000, Cell.arr false true 0 1 x')] } => ⟨A.spec_DepthOf_l5 l, M.spec_DepthOf_l5 l ((i, x'))⟩
  | _ => .none
theorem C.spec_DepthOf_l5 : LpOk X0 37 5 (loopCode X0.P 37 5) (PL.spec_DepthOf_l5) := by
  refine ⟨by kernel_rfl, fun S r hr => ?_⟩
  unfold PL.spec_DepthOf_l5 at hr
  split at hr
  · obtain ⟨x, hx, rfl⟩ := ResA.val_some hr
    exact lp_sound (K := K.spec_DepthOf_l5) (L := L.spec_DepthOf_l5) (b := M.spec_DepthOf_l5_b _) (tm := T.spec_DepthOf_l5 _) (tx := (A.spec_DepthOf_l5 _).enc) knil_ok (by rw [LC.spec_DepthOf_l5]; exact (LOk.cons (LpOk.at (C.spec_DepthOf_l9) (fun _ => rfl)) LOk.nil)) (fun s => by rw [E.spec_DepthOf_l5, M.spec_DepthOf_l5_n]; congr 1; funext r; cases r <;> first | rfl | exact Alt.go_eq _ _ _) (by intro t; intro h; cases h) hx (s := (_, _))
  · cases hr
noncomputable def M.spec_DepthOf_C {R : Type} (l : List Row) (k : Int → Option R) : Option R :=
  (M.spec_ShapeOk l).bind fun r53 =>
   (bif !r53 then (k 0) else
    ((M.spec_DepthOf_l5 l ((0, []))).bind fun t64 =>
     ((idx t64.snd (IntKind.i64.wrap ((↑l.length : Int) - 1))).bind fun row65 =>
      ((t64.snd[(IntKind.i64.wrap ((↑l.length : Int) - 1)).toNat]?).bind fun row66 => ((cInt IntKind.i64 row66 0).bind fun n67 => (k n67))))))
noncomputable def M.spec_DepthOf (l : List Row) : Option (Int) := M.spec_DepthOf_C l some
theorem M.spec_DepthOf_n {R : Type} (l : List Row) (k : Int → Option R) : M.spec_DepthOf_C l k = (M.spec_DepthOf_C l some).bind k := by
  simp only [M.spec_DepthOf_C, bif_bind, bind_bind, some_bind, none_bind, sumE_bind, optE_bind, letE_bind]
noncomputable def K.spec_DepthOf : KonC := (kcons 36 (P.spec_ShapeOk M.spec_ShapeOk pnil) knil)
noncomputable def L.spec_DepthOf : LoopC := (lcons 5 (PL.spec_DepthOf_l5) lnil)
theorem E.spec_DepthOf {R : Type} (l : List Row) (k : List Row → List Cell → Option R) : bodyC X0 (K.spec_DepthOf) (L.spec_DepthOf) 37 [V.d (D.sl false 5 l)] [] k = M.spec_DepthOf_C l (fun r => k [[D.int IntKind.i64 r]] []) := by kernel_rfl
theorem LC.spec_DepthOf : loops (codeOf X0.P 37) = [loopCode X0.P 37 5] := by kernel_rfl
theorem C.spec_DepthOf : H.spec_DepthOf (M.spec_DepthOf) := by
  intro l r h
  exact fn_sound (enc := fun r => ([[D.int IntKind.i64 r]], [])) (K := K.spec_DepthOf) (L := L.spec_DepthOf) (by kernel_rfl) (kcons_ok (P.spec_ShapeOk_ok C.spec_ShapeOk pnil_ok) knil_ok) (by rw [LC.spec_DepthOf]; exact (LOk.cons (LpOk.at (C.spec_DepthOf_l5) (fun _ => rfl)) LOk.nil)) (by rw [E.spec_DepthOf, M.spec_DepthOf_n] <;> rfl) h

/-! spec_l7Many -/
def H.spec_l7Many (o : Int → Int → List UInt8 → List UInt8 → List Row → Option (Int × Int)) : Prop := ∀ (n' : Int) (n'1 : Int) (n'2 : List UInt8) (n'3 : List UInt8) (n'4 : List Row) (r : Int × Int), o n' n'1 n'2 n'3 n'4 = some r → call X0 53 [V.agg [V.d (D.int IntKind.i64 n'), V.d (D.int IntKind.i64 n'1), V.d (D.str n'2), V.d (D.str n'3), V.d (D.sl false 1 n'4)]] [] = some ([[D.int IntKind.i64 r.fst], [D.int IntKind.i64 r.snd]], [])
def P.spec_l7Many (o : Int → Int → List UInt8 → List UInt8 → List Row → Option (Int × Int)) (q : List V → List Cell → Res (List Row × List Cell)) (a : List V) (c : List Cell) : Res (List Row × List Cell) := match a, c with
  | [V.agg [V.d (D.int IntKind.i64 n'), V.d (D.int IntKind.i64 n'1), V.d (D.str n'2), V.d (D.str n'3), V.d (D.sl false 1 n'4)]], [] => ⟨Int × Int, o n' n'1 n'2 n'3 n'4, fun r => ([[D.int IntKind.i64 r.fst], [D.int IntKind.i64 r.snd]], [])⟩
  | a, c => q a c
theorem P.spec_l7Many_ok {o : Int → Int → List UInt8 → List UInt8 → List Row → Option (Int × Int)} {q : List V → List Cell → Res (List Row × List Cell)} (h : H.spec_l7Many o) (hq : FnOk X0 53 q) : FnOk X0 53 (P.spec_l7Many o q) := by
  intro a c r hr
  unfold P.spec_l7Many at hr
  split at hr
  · obtain ⟨x, hx, rfl⟩ := Res.val_some hr
    exact h _ _ _ _ _ x hx
  · exact hq _ _ _ hr
noncomputable def M.spec_l7Many_C {R : Type} (n' : Int) (n'1 : Int) (n'2 : List UInt8) (n'3 : List UInt8) (n'4 : List Row) (k : Int × Int → Option R) : Option R :=
  bif n' == 5 then (k ((1, 6))) else
   (bif n' == 13 then (k ((1, 6))) else
    (bif n' == 7 then (k ((0, 6))) else
     (bif n' == 8 then (k ((0, 6))) else
      (bif n' == 27 then (k ((0, 6))) else
       (bif n' == 6 then (k ((1, 1))) else
        (bif n' == 9 then (k ((1, 1))) else
         (bif n' == 10 then (k ((1, 1))) else
          (bif n' == 11 then (k ((1, 1))) else
           (bif n' == 20 then (k ((1, 1))) else
            (bif n' == 32 then (k ((1, 1))) else
             (bif n' == 40 then (k ((1, 1))) else
              (bif n' == 41 then (k ((1, 1))) else
               (bif n' == 12 then (k ((2, 2))) else
                (bif n' == 15 then (k ((2, 2))) else
                 (bif n' == 29 then (k ((2, 2))) else
                  (bif n' == 30 then (k ((2, 2))) else
                   (bif n' == 14 then (k ((3, 3))) else
                    (bif n' == 21 then (bif !n'3 == [] then (k ((IntKind.i64.wrap (n'1 + 1), 7))) else (k ((n'1, 6)))) else
                     (bif n' == 23 then (k ((0, 1))) else
                      (bif n' == 24 then (k ((0, 1))) else
                       (bif n' == 28 then (k ((2, 3))) else
                        (bif n' == 31 then (k ((4, 4))) else
                         (bif n' == 33 then (k ((0, (↑n'4.length : Int)))) else
                          (bif n' == 45 then (k ((0, (↑n'4.length : Int)))) else
                           (bif n' == 42 then
                            (k ((IntKind.i64.wrap (1 + IntKind.i64.wrap (n'1.tdiv 3)), IntKind.i64.wrap (1 + IntKind.i64.wrap (n'1.tdiv 3))))) else
                            (bif n' == 43 then
                             (k ((IntKind.i64.wrap (2 + IntKind.i64.wrap (n'1.tdiv 3)), IntKind.i64.wrap (2 + IntKind.i64.wrap (n'1.tdiv 3))))) else (bif n' == 44 then (k ((1, 7))) else (k ((0, 0))))))))))))))))))))))))))))))
noncomputable def M.spec_l7Many (n' : Int) (n'1 : Int) (n'2 : List UInt8) (n'3 : List UInt8) (n'4 : List Row) : Option (Int × Int) := M.spec_l7Many_C n' n'1 n'2 n'3 n'4 some
theorem M.spec_l7Many_n {R : Type} (n' : Int) (n'1 : Int) (n'2 : List UInt8) (n'3 : List UInt8) (n'4 : List Row) (k : Int × Int → Option R) : M.spec_l7Many_C n' n'1 n'2 n'3 n'4 k = (M.spec_l7Many_C n' n'1 n'2 n'3 n'4 some).bind k := by
  simp only [M.spec_l7Many_C, bif_bind, bind_bind, some_bind, none_bind, sumE_bind, optE_bind, letE_bind]
noncomputable def K.spec_l7Many : KonC := knil
noncomputable def L.spec_l7Many : LoopC := lnil
theorem E.spec_l7Many {R : Type} (n' : Int) (n'1 : Int) (n'2 : List UInt8) (n'3 : List UInt8) (n'4 : List Row) (k : List Row → List Cell → Option R) : bodyC X0 (K.spec_l7Many) (L.spec_l7Many) 53 [V.agg [V.d (D.int IntKind.i64 n'), V.d (D.int IntKind.i64 n'1), V.d (D.str n'2), V.d (D.str n'3), V.d (D.sl false 1 n'4)]] [] k = M.spec_l7Many_C n' n'1 n'2 n'3 n'4 (fun r => k [[D.int IntKind.i64 r.fst], [D.int IntKind.i64 r.snd]] []) := by kernel_rfl
theorem LC.spec_l7Many : loops (codeOf X0.P 53) = [] := by kernel_rfl
theorem C.spec_l7Many : H.spec_l7Many (M.spec_l7Many) := by
  intro n' n'1 n'2 n'3 n'4 r h
  exact fn_sound (enc := fun r => ([[D.int IntKind.i64 r.fst], [D.int IntKind.i64 r.snd]], [])) (K := K.spec_l7Many) (L := L.spec_l7Many) (by kernel_rfl) knil_ok (by rw [LC.spec_l7Many]; exact LOk.nil) (by rw [E.spec_l7Many, M.spec_l7Many_n] <;> rfl) h

/-! spec_l7IsBin -/
def H.spec_l7IsBin (o : Int → Option (Bool)) : Prop := ∀ (op' : Int) (r : Bool), o op' = some r → call X0 77 [V.d (D.int IntKind.i64 op')] [] = some ([[D.bool r]], [])
def P.spec_l7IsBin (o : Int → Option (Bool)) (q : List V → List Cell → Res (List Row × List Cell)) (a : List V) (c : List Cell) : Res (List Row × List Cell) := match a, c with
  | [V.d (D.int IntKind.i64 op')], [] => ⟨Bool, o op', fun r => ([[D.bool r]], [])⟩
  | a, c => q a c
theorem P.spec_l7IsBin_ok {o : Int → Option (Bool)} {q : List V → List Cell → Res (List Row × List Cell)} (h : H.spec_l7IsBin o) (hq : FnOk X0 77 q) : FnOk X0 77 (P.spec_l7IsBin o q) := by
  intro a c r hr
  unfold P.spec_l7IsBin at hr
  split at hr
  · obtain ⟨x, hx, rfl⟩ := Res.val_some hr
    exact h _ x hx
  · exact hq _ _ _ hr
noncomputable def M.spec_l7IsBin_C {R : Type} (op' : Int) (k : Bool → Option R) : Option R :=
  bif op' == 60 then (k true) else
   (bif op' == 57 then (k true) else
    (bif op' == 58 then (k true) else
     (bif op' == 59 then (k true) else
      (bif op' == 55 then (k true) else
       (bif op' == 56 then (k true) else
        (bif op' == 99 then (k true) else
         (bif op' == 63 then (k true) else
          (bif op' == 48 then (k true) else
           (bif op' == 47 then (k true) else
            (bif op' == 50 then (k true) else
             (bif op' == 62 then (k true) else
              (bif op' == 49 then (k true) else
               (bif op' == 67 then (k true) else
                (bif op' == 46 then (k true) else (bif op' == 45 then (k true) else (bif op' == 44 then (k true) else (k false)))))))))))))))))
noncomputable def M.spec_l7IsBin (op' : Int) : Option (Bool) := M.spec_l7IsBin_C op' some
theorem M.spec_l7IsBin_n {R : Type} (op' : Int) (k : Bool → Option R) : M.spec_l7IsBin_C op' k = (M.spec_l7IsBin_C op' some).bind k := by
  simp only [M.spec_l7IsBin_C, bif_bind, bind_bind, some_bind, none_bind, sumE_bind, optE_bind, letE_bind]
noncomputable def K.spec_l7IsBin : KonC := knil
noncomputable def L.spec_l7IsBin : LoopC := lnil
theorem E.spec_l7IsBin {R : Type} (op' : Int) (k : List Row → List Cell → Option R) : bodyC X0 (K.spec_l7IsBin) (L.spec_l7IsBin) 77 [V.d (D.int IntKind.i64 op')] [] k = M.spec_l7IsBin_C op' (fun r => k [[D.bool r]] []) := by kernel_rfl
theorem LC.spec_l7IsBin : loops (codeOf X0.P 77) = [] := by kernel_rfl
theorem C.spec_l7IsBin : H.spec_l7IsBin (M.spec_l7IsBin) := by
  intro op' r h
  exact fn_sound (enc := fun r => ([[D.bool r]], [])) (K := K.spec_l7IsBin) (L := L.spec_l7IsBin) (by kernel_rfl) knil_ok (by rw [LC.spec_l7IsBin]; exact LOk.nil) (by rw [E.spec_l7IsBin, M.spec_l7IsBin_n] <;> rfl) h

/-! spec_l7IsAssign -/
def H.spec_l7IsAssign (o : Int → Option (Bool)) : Prop := ∀ (op' : Int) (r : Bool), o op' = some r → call X0 78 [V.d (D.int IntKind.i64 op')] [] = some ([[D.bool r]], [])
def P.spec_l7IsAssign (o : Int → Option (Bool)) (q : List V → List Cell → Res (List Row × List Cell)) (a : List V) (c : List Cell) : Res (List Row × List Cell) := match a, c with
  | [V.d (D.int IntKind.i64 op')], [] => ⟨Bool, o op', fun r => ([[D.bool r]], [])⟩
  | a, c => q a c
theorem P.spec_l7IsAssign_ok {o : Int → Option (Bool)} {q : List V → List Cell → Res (List Row × List Cell)} (h : H.spec_l7IsAssign o) (hq : FnOk X0 78 q) : FnOk X0 78 (P.spec_l7IsAssign o q) := by
  intro a c r hr
  unfold P.spec_l7IsAssign at hr
  split at hr
  · obtain ⟨x, hx, rfl⟩ := Res.val_some hr
    exact h _ x hx
  · exact hq _ _ _ hr
noncomputable def M.spec_l7IsAssign_C {R : Type} (op' : Int) (k : Bool → Option R) : Option R :=
  bif op' == 54 then (k true) else ((M.spec_l1In op' 38 43).bind fun r78 => (k r78))
noncomputable def M.spec_l7IsAssign (op' : Int) : Option (Bool) := M.spec_l7IsAssign_C op' some
theorem M.spec_l7IsAssign_n {R : Type} (op' : Int) (k : Bool → Option R) : M.spec_l7IsAssign_C op' k = (M.spec_l7IsAssign_C op' some).bind k := by
  simp only [M.spec_l7IsAssign_C, bif_bind, bind_bind, some_bind, none_bind, sumE_bind, optE_bind, letE_bind]
noncomputable def K.spec_l7IsAssign : KonC := (kcons 51 (P.spec_l1In M.spec_l1In pnil) knil)
noncomputable def L.spec_l7IsAssign : LoopC := lnil
theorem E.spec_l7IsAssign {R : Type} (op' : Int) (k : List Row → List Cell → Option R) : bodyC X0 (K.spec_l7IsAssign) (L.spec_l7IsAssign) 78 [V.d (D.int IntKind.i64 op')] [] k = M.spec_l7IsAssign_C op' (fun r => k [[D.bool r]] []) := by kernel_rfl
theorem LC.spec_l7IsAssign : loops (codeOf X0.P 78) = [] := by kernel_rfl
theorem C.spec_l7IsAssign : H.spec_l7IsAssign (M.spec_l7IsAssign) := by
  intro op' r h
  exact fn_sound (enc := fun r => ([[D.bool r]], [])) (K := K.spec_l7IsAssign) (L := L.spec_l7IsAssign) (by kernel_rfl) (kcons_ok (P.spec_l1In_ok C.spec_l1In pnil_ok) knil_ok) (by rw [LC.spec_l7IsAssign]; exact LOk.nil) (by rw [E.spec_l7IsAssign, M.spec_l7IsAssign_n] <;> rfl) h

/-! spec_l7Op -/
def H.spec_l7Op (o : Int → Int → List UInt8 → List UInt8 → List Row → Option (Bool)) : Prop := ∀ (n' : Int) (n'1 : Int) (n'2 : List UInt8) (n'3 : List UInt8) (n'4 : List Row) (r : Bool), o n' n'1 n'2 n'3 n'4 = some r → call X0 54 [V.agg [V.d (D.int IntKind.i64 n'), V.d (D.int IntKind.i64 n'1), V.d (D.str n'2), V.d (D.str n'3), V.d (D.sl false 1 n'4)]] [] = some ([[D.bool r]], [])
def P.spec_l7Op (o : Int → Int → List UInt8 → List UInt8 → List Row → Option (Bool)) (q : List V → List Cell → Res (List Row × List Cell)) (a : List V) (c : List Cell) : Res (List Row × List Cell) := match a, c with
  | [V.agg [V.d (D.int IntKind.i64 n'), V.d (D.int IntKind.i64 n'1), V.d (D.str n'2), V.d (D.str n'3), V.d (D.sl false 1 n'4)]], [] => ⟨Bool, o n' n'1 n'2 n'3 n'4, fun r => ([[D.bool r]], [])⟩
  | a, c => q a c
theorem P.spec_l7Op_ok {o : Int → Int → List UInt8 → List UInt8 → List Row → Option (Bool)} {q : List V → List Cell → Res (List Row × List Cell)} (h : H.spec_l7Op o) (hq : FnOk X0 54 q) : FnOk X0 54 (P.spec_l7Op o q) := by
  intro a c r hr
  unfold P.spec_l7Op at hr
  split at hr
  · obtain ⟨x, hx, rfl⟩ := Res.val_some hr
    exact h _ _ _ _ _ x hx
  · exact hq _ _ _ hr
noncomputable def M.spec_l7Op_C {R : Type} (n' : Int) (n'1 : Int) (n'2 : List UInt8) (n'3 : List UInt8) (n'4 : List Row) (k : Bool → Option R) : Option R :=
  bif n' == 9 then (bif n'1 == 51 then (k true) else (k (n'1 == 52))) else
   (bif n' == 10 then (bif n'1 == 51 then (k true) else (k (n'1 == 52))) else
    (bif n' == 11 then (bif n'1 == 55 then (k true) else (bif n'1 == 56 then (k true) else (k (n'1 == 61)))) else
     (bif n' == 12 then ((M.spec_l7IsBin n'1).bind fun r77 => (k r77)) else
      (bif n' == 15 then ((M.spec_l7IsAssign n'1).bind fun r79 => (k r79)) else
       (bif n' == 21 then ((M.spec_l1In n'1 0 1).bind fun r80 => (k r80)) else
        (bif n' == 42 then ((M.spec_l1In n'1 1 3).bind fun r81 => (k r81)) else (bif n' == 43 then (bif n'1 == 1 then (k true) else (k (n'1 == 3))) else (k (n'1 == 0)))))))))
noncomputable def M.spec_l7Op (n' : Int) (n'1 : Int) (n'2 : List UInt8) (n'3 : List UInt8) (n'4 : List Row) : Option (Bool) := M.spec_l7Op_C n' n'1 n'2 n'3 n'4 some
theorem M.spec_l7Op_n {R : Type} (n' : Int) (n'1 : Int) (n'2 : List UInt8) (n'3 : List UInt8) (n'4 : List Row) (k : Bool → Option R) : M.spec_l7Op_C n' n'1 n'2 n'3 n'4 k = (M.spec_l7Op_C n' n'1 n'2 n'3 n'4 some).bind k := by
  simp only [M.spec_l7Op_C, bif_bind, bind_bind, some_bind, none_bind, sumE_bind, optE_bind, letE_bind]
noncomputable def K.spec_l7Op : KonC := (kcons 77 (P.spec_l7IsBin M.spec_l7IsBin pnil) (kcons 78 (P.spec_l7IsAssign M.spec_l7IsAssign pnil) (kcons 51 (P.spec_l1In M.spec_l1In pnil) knil)))
noncomputable def L.spec_l7Op : LoopC := lnil
theorem E.spec_l7Op {R : Type} (n' : Int) (n'1 : Int) (n'2 : List UInt8) (n'3 : List UInt8) (n'4 : List Row) (k : List Row → List Cell → Option R) : bodyC X0 (K.spec_l7Op) (L.spec_l7Op) 54 [V.agg [V.d (D.int IntKind.i64 n'), V.d (D.int IntKind.i64 n'1), V.d (D.str n'2), V.d (D.str n'3), V.d (D.sl false 1 n'4)]] [] k = M.spec_l7Op_C n' n'1 n'2 n'3 n'4 (fun r => k [[D.bool r]] []) := by kernel_rfl
theorem LC.spec_l7Op : loops (codeOf X0.P 54) = [] := by kernel_rfl
theorem C.spec_l7Op : H.spec_l7Op (M.spec_l7Op) := by
  intro n' n'1 n'2 n'3 n'4 r h
  exact fn_sound (enc := fun r => ([[D.bool r]], [])) (K := K.spec_l7Op) (L := L.spec_l7Op) (by kernel_rfl) (kcons_ok (P.spec_l7IsBin_ok C.spec_l7IsBin pnil_ok) (kcons_ok (P.spec_l7IsAssign_ok C.spec_l7IsAssign pnil_ok) (kcons_ok (P.spec_l1In_ok C.spec_l1In pnil_ok) knil_ok))) (by rw [LC.spec_l7Op]; exact LOk.nil) (by rw [E.spec_l7Op, M.spec_l7Op_n] <;> rfl) h

/-! spec_IsLetter -/
def H.spec_IsLetter (o : Int → Option (Bool)) : Prop := ∀ (b : Int) (r : Bool), o b = some r → call X0 113 [V.d (D.int IntKind.i64 b)] [] = some ([[D.bool r]], [])
def P.spec_IsLetter (o : Int → Option (Bool)) (q : List V → List Cell → Res (List Row × List Cell)) (a : List V) (c : List Cell) : Res (List Row × List Cell) := match a, c with
  | [V.d (D.int IntKind.i64 b)], [] => ⟨Bool, o b, fun r => ([[D.bool r]], [])⟩
  | a, c => q a c
theorem P.spec_IsLetter_ok {o : Int → Option (Bool)} {q : List V → List Cell → Res (List Row × List Cell)} (h : H.spec_IsLetter o) (hq : FnOk X0 113 q) : FnOk X0 113 (P.spec_IsLetter o q) := by
  intro a c r hr
  unfold P.spec_IsLetter at hr
  split at hr
  · obtain ⟨x, hx, rfl⟩ := Res.val_some hr
    exact h _ x hx
  · exact hq _ _ _ hr
noncomputable def M.spec_IsLetter_C {R : Type} (b : Int) (k : Bool → Option R) : Option R :=
  (M.spec_l1In b 97 122).bind fun r84 =>
   (bif r84 then (k true) else ((M.spec_l1In b 65 90).bind fun r85 => (bif r85 then (k true) else (k (b == 95)))))
noncomputable def M.spec_IsLetter (b : Int) : Option (Bool) := M.spec_IsLetter_C b some
theorem M.spec_IsLetter_n {R : Type} (b : Int) (k : Bool → Option R) : M.spec_IsLetter_C b k = (M.spec_IsLetter_C b some).bind k := by
  simp only [M.spec_IsLetter_C, bif_bind, bind_bind, some_bind, none_bind, sumE_bind, optE_bind, letE_bind]
noncomputable def K.spec_IsLetter : KonC := (kcons 51 (P.spec_l1In M.spec_l1In pnil) knil)
noncomputable def L.spec_IsLetter : LoopC := lnil
theorem E.spec_IsLetter {R : Type} (b : Int) (k : List Row → List Cell → Option R) : bodyC X0 (K.spec_IsLetter) (L.spec_IsLetter) 113 [V.d (D.int IntKind.i64 b)] [] k = M.spec_IsLetter_C b (fun r => k [[D.bool r]] []) := by kernel_rfl
theorem LC.spec_IsLetter : loops (codeOf X0.P 113) = [] := by kernel_rfl
theorem C.spec_IsLetter : H.spec_IsLetter (M.spec_IsLetter) := by
  intro b r h
  exact fn_sound (enc := fun r => ([[D.bool r]], [])) (K := K.spec_IsLetter) (L := L.spec_IsLetter) (by kernel_rfl) (kcons_ok (P.spec_l1In_ok C.spec_l1In pnil_ok) knil_ok) (by rw [LC.spec_IsLetter]; exact LOk.nil) (by rw [E.spec_IsLetter, M.spec_IsLetter_n] <;> rfl) h

/-! spec_IsDigit -/
def H.spec_IsDigit (o : Int → Option (Bool)) : Prop := ∀ (b : Int) (r : Bool), o b = some r → call X0 126 [V.d (D.int IntKind.i64 b)] [] = some ([[D.bool r]], [])
def P.spec_IsDigit (o : Int → Option (Bool)) (q : List V → List Cell → Res (List Row × List Cell)) (a : List V) (c : List Cell) : Res (List Row × List Cell) := match a, c with
  | [V.d (D.int IntKind.i64 b)], [] => ⟨Bool, o b, fun r => ([[D.bool r]], [])⟩
  | a, c => q a c
theorem P.spec_IsDigit_ok {o : Int → Option (Bool)} {q : List V → List Cell → Res (List Row × List Cell)} (h : H.spec_IsDigit o) (hq : FnOk X0 126 q) : FnOk X0 126 (P.spec_IsDigit o q) := by
  intro a c r hr
  unfold P.spec_IsDigit at hr
  split at hr
  · obtain ⟨x, hx, rfl⟩ := Res.val_some hr
    exact h _ x hx
  · exact hq _ _ _ hr
noncomputable def M.spec_IsDigit_C {R : Type} (b : Int) (k : Bool → Option R) : Option R :=
  (M.spec_l1In b 48 57).bind fun r87 => (k r87)
noncomputable def M.spec_IsDigit (b : Int) : Option (Bool) := M.spec_IsDigit_C b some
theorem M.spec_IsDigit_n {R : Type} (b : Int) (k : Bool → Option R) : M.spec_IsDigit_C b k = (M.spec_IsDigit_C b some).bind k := by
  simp only [M.spec_IsDigit_C, bif_bind, bind_bind, some_bind, none_bind, sumE_bind, optE_bind, letE_bind]
noncomputable def K.spec_IsDigit : KonC := (kcons 51 (P.spec_l1In M.spec_l1In pnil) knil)
noncomputable def L.spec_IsDigit : LoopC := lnil
theorem E.spec_IsDigit {R : Type} (b : Int) (k : List Row → List Cell → Option R) : bodyC X0 (K.spec_IsDigit) (L.spec_IsDigit) 126 [V.d (D.int IntKind.i64 b)] [] k = M.spec_IsDigit_C b (fun r => k [[D.bool r]] []) := by kernel_rfl
theorem LC.spec_IsDigit : loops (codeOf X0.P 126) = [] := by kernel_rfl
theorem C.spec_IsDigit : H.spec_IsDigit (M.spec_IsDigit) := by
  intro b r h
  exact fn_sound (enc := fun r => ([[D.bool r]], [])) (K := K.spec_IsDigit) (L := L.spec_IsDigit) (by kernel_rfl) (kcons_ok (P.spec_l1In_ok C.spec_l1In pnil_ok) knil_ok) (by rw [LC.spec_IsDigit]; exact LOk.nil) (by rw [E.spec_IsDigit, M.spec_IsDigit_n] <;> rfl) h

/-! spec_IsWordByte -/
def H.spec_IsWordByte (o : Int → Option (Bool)) : Prop := ∀ (b : Int) (r : Bool), o b = some r → call X0 112 [V.d (D.int IntKind.i64 b)] [] = some ([[D.bool r]], [])
def P.spec_IsWordByte (o : Int → Option (Bool)) (q : List V → List Cell → Res (List Row × List Cell)) (a : List V) (c : List Cell) : Res (List Row × List Cell) := match a, c with
  | [V.d (D.int IntKind.i64 b)], [] => ⟨Bool, o b, fun r => ([[D.bool r]], [])⟩
  | a, c => q a c
theorem P.spec_IsWordByte_ok {o : Int → Option (Bool)} {q : List V → List Cell → Res (List Row × List Cell)} (h : H.spec_IsWordByte o) (hq : FnOk X0 112 q) : FnOk X0 112 (P.spec_IsWordByte o q) := by
  intro a c r hr
  unfold P.spec_IsWordByte at hr
  split at hr
  · obtain ⟨x, hx, rfl⟩ := Res.val_some hr
    exact h _ x hx
  · exact hq _ _ _ hr
noncomputable def M.spec_IsWordByte_C {R : Type} (b : Int) (k : Bool → Option R) : Option R :=
  (M.spec_IsLetter b).bind fun r86 => (bif r86 then (k true) else ((M.spec_IsDigit b).bind fun r88 => (k r88)))
noncomputable def M.spec_IsWordByte (b : Int) : Option (Bool) := M.spec_IsWordByte_C b some
theorem M.spec_IsWordByte_n {R : Type} (b : Int) (k : Bool → Option R) : M.spec_IsWordByte_C b k = (M.spec_IsWordByte_C b some).bind k := by
  simp only [M.spec_IsWordByte_C, bif_bind, bind_bind, some_bind, none_bind, sumE_bind, optE_bind, letE_bind]
noncomputable def K.spec_IsWordByte : KonC := (kcons 113 (P.spec_IsLetter M.spec_IsLetter pnil) (kcons 126 (P.spec_IsDigit M.spec_IsDigit pnil) knil))
noncomputable def L.spec_IsWordByte : LoopC := lnil
theorem E.spec_IsWordByte {R : Type} (b : Int) (k : List Row → List Cell → Option R) : bodyC X0 (K.spec_IsWordByte) (L.spec_IsWordByte) 112 [V.d (D.int IntKind.i64 b)] [] k = M.spec_IsWordByte_C b (fun r => k [[D.bool r]] []) := by kernel_rfl
theorem LC.spec_IsWordByte : loops (codeOf X0.P 112) = [] := by kernel_rfl
theorem C.spec_IsWordByte : H.spec_IsWordByte (M.spec_IsWordByte) := by
  intro b r h
  exact fn_sound (enc := fun r => ([[D.bool r]], [])) (K := K.spec_IsWordByte) (L := L.spec_IsWordByte) (by kernel_rfl) (kcons_ok (P.spec_IsLetter_ok C.spec_IsLetter pnil_ok) (kcons_ok (P.spec_IsDigit_ok C.spec_IsDigit pnil_ok) knil_ok)) (by rw [LC.spec_IsWordByte]; exact LOk.nil) (by rw [E.spec_IsWordByte, M.spec_IsWordByte_n] <;> rfl) h

/-! spec_NameShape -/
def H.spec_NameShape (o : List UInt8 → Option (Bool)) : Prop := ∀ (s' : List UInt8) (r : Bool), o s' = some r → call X0 92 [V.d (D.str s')] [] = some ([[D.bool r]], [])
def P.spec_NameShape (o : List UInt8 → Option (Bool)) (q : List V → List Cell → Res (List Row × List Cell)) (a : List V) (c : List Cell) : Res (List Row × List Cell) := match a, c with
  | [V.d (D.str s')], [] => ⟨Bool, o s', fun r => ([[D.bool r]], [])⟩
  | a, c => q a c
theorem P.spec_NameShape_ok {o : List UInt8 → Option (Bool)} {q : List V → List Cell → Res (List Row × List Cell)} (h : H.spec_NameShape o) (hq : FnOk X0 92 q) : FnOk X0 92 (P.spec_NameShape o q) := by
  intro a c r hr
  unfold P.spec_NameShape at hr
  split at hr
  · obtain ⟨x, hx, rfl⟩ := Res.val_some hr
    exact h _ x hx
  · exact hq _ _ _ hr
noncomputable def M.spec_NameShape_l2_C {R : Type} (s' : List UInt8) (s : Int) (kn : Int → Option R) (ke : (Unit) ⊕ (Int) → Option R) : Option R := match s with
  | i =>
    bif decide (i < (↑s'.length : Int)) then
     ((idx s' i).bind fun c83 =>
      ((M.spec_IsWordByte (IntKind.i64.wrap (↑c83.toNat : Int))).bind fun r89 => (bif !r89 then (ke (.inl ())) else (kn (IntKind.i64.wrap (i + 1)))))) else (ke (.inr i))
noncomputable def M.spec_NameShape_l2_b (s' : List UInt8) (s : Int) : Option ((Int) ⊕ ((Unit) ⊕ (Int))) := M.spec_NameShape_l2_C s' s (fun s => some (.inl s)) (fun t => some (.inr t))
noncomputable def M.spec_NameShape_l2 (s' : List UInt8) (s : Int) : Option ((Unit) ⊕ (Int)) := loopM (M.spec_NameShape_l2_b s') s
theorem M.spec_NameShape_l2_n {R : Type} (s' : List UInt8) (s : Int) (kn : Int → Option R) (ke : (Unit) ⊕ (Int) → Option R) : M.spec_NameShape_l2_C s' s kn ke = (M.spec_NameShape_l2_b s' s).bind fun r => match r with | .inl s => kn s | .inr t => ke t := by
  skip
  all_goals
    simp only [M.spec_NameShape_l2_b, M.spec_NameShape_l2_C, bif_bind, bind_bind, some_bind, none_bind, sumE_bind, optE_bind, letE_bind]
def A.spec_NameShape_l2 (s' : List UInt8) : Alt (Ex × St) := .sum (.leaf (Unit) (fun t => (Ex.ret, { tm := [(2, V.d (D.bool false))], mem := [] }))) (.leaf (Int) (fun t => (Ex.exit 0, { tm := [(0, V.d (D.str s')), (3, V.d (D.int IntKind.i64 t)), (7, V.d (D.bool false))], mem := [] })))
def T.spec_NameShape_l2 (s' : List UInt8) (s : Int) : St := match s with
  | i => { tm := [(0, V.d (D.str s')), (3, V.d (D.int IntKind.i64 i))], mem := [] }
noncomputable def K.spec_NameShape_l2 : KonC := (kcons 112 (P.spec_IsWordByte M.spec_IsWordByte pnil) knil)
noncomputable def L.spec_NameShape_l2 : LoopC := lnil
theorem E.spec_NameShape_l2 {R : Type} (s' : List UInt8) (s : Int) (k : Ex → St → Option R) : denC X0 (K.spec_NameShape_l2) (L.spec_NameShape_l2) 92 (loopCode X0.P 92 2) (T.spec_NameShape_l2 s' s) k = M.spec_NameShape_l2_C s' s (fun s => k .normal (T.spec_NameShape_l2 s' s)) (fun t => (A.spec_NameShape_l2 s').go t fun r => k r.1 r.2) := by
  skip
  all_goals kernel_rfl
theorem LC.spec_NameShape_l2 : loops (loopCode X0.P 92 2) = [] := by kernel_rfl
noncomputable def PL.spec_NameShape_l2 (S : St) : ResA (Ex × St) := match S with
  | { tm := [(0, V.d (D.str s')), (3, V.d (D.int IntKind.i64 i))], mem := [] } => ⟨A.spec_NameShape_l2 s', M.spec_NameShape_l2 s' i⟩
  | _ => .none
theorem C.spec_NameShape_l2 : LpOk X0 92 2 (loopCode X0.P 92 2) (PL.spec_NameShape_l2) := by
  refine ⟨by kernel_rfl, fun S r hr => ?_⟩
  unfold PL.spec_NameShape_l2 at hr
  split at hr
  · obtain ⟨x, hx, rfl⟩ := ResA.val_some hr
    exact lp_sound (K := K.spec_NameShape_l2) (L := L.spec_NameShape_l2) (b := M.spec_NameShape_l2_b _) (tm := T.spec_NameShape_l2 _) (tx := (A.spec_NameShape_l2 _).enc) (kcons_ok (P.spec_IsWordByte_ok C.spec_IsWordByte pnil_ok) knil_ok) (by rw [LC.spec_NameShape_l2]; exact LOk.nil) (fun s => by rw [E.spec_NameShape_l2, M.spec_NameShape_l2_n]; congr 1; funext r; cases r <;> first | rfl | exact Alt.go_eq _ _ _) (by intro t; rcases t with t | t <;> first | (intro h; cases h) | (intro h; cases h)) hx (s := _)
  · cases hr
noncomputable def M.spec_NameShape_C {R : Type} (s' : List UInt8) (k : Bool → Option R) : Option R :=
  (M.spec_NameShape_l2 s' 0).bind fun u95 =>
  sumE u95 (fun t90 => (k false)) fun u96 =>
   letE u96 fun t91 =>
    ((M.spec_l1In ((↑s'.length : Int)) 1 12).bind fun r92 =>
     (bif r92 then
      ((idx s' 0).bind fun c93 => ((M.spec_IsLetter (IntKind.i64.wrap (↑c93.toNat : Int))).bind fun r94 => (k r94))) else (k false)))
noncomputable def M.spec_NameShape (s' : List UInt8) : Option (Bool) := M.spec_NameShape_C s' some
theorem M.spec_NameShape_n {R : Type} (s' : List UInt8) (k : Bool → Option R) : M.spec_NameShape_C s' k = (M.spec_NameShape_C s' some).bind k := by
  simp only [M.spec_NameShape_C, bif_bind, bind_bind, some_bind, none_bind, sumE_bind, optE_bind, letE_bind]
noncomputable def K.spec_NameShape : KonC := (kcons 51 (P.spec_l1In M.spec_l1In pnil) (kcons 113 (P.spec_IsLetter M.spec_IsLetter pnil) knil))
noncomputable def L.spec_NameShape : LoopC := (lcons 2 (PL.spec_NameShape_l2) lnil)
theorem E.spec_NameShape {R : Type} (s' : List UInt8) (k : List Row → List Cell → Option R) : bodyC X0 (K.spec_NameShape) (L.spec_NameShape) 92 [V.d (D.str s')] [] k = M.spec_NameShape_C s' (fun r => k [[D.bool r]] []) := by kernel_rfl
theorem LC.spec_NameShape : loops (codeOf X0.P 92) = [loopCode X0.P 92 2] := by kernel_rfl
theorem C.spec_NameShape : H.spec_NameShape (M.spec_NameShape) := by
  intro s' r h
  exact fn_sound (enc := fun r => ([[D.bool r]], [])) (K := K.spec_NameShape) (L := L.spec_NameShape) (by kernel_rfl) (kcons_ok (P.spec_l1In_ok C.spec_l1In pnil_ok) (kcons_ok (P.spec_IsLetter_ok C.spec_IsLetter pnil_ok) knil_ok)) (by rw [LC.spec_NameShape]; exact (LOk.cons (LpOk.at (C.spec_NameShape_l2) (fun _ => rfl)) LOk.nil)) (by rw [E.spec_NameShape, M.spec_NameShape_n] <;> rfl) h

/-! spec_l3Words -/
def H.spec_l3Words (o : Option (List Row)) : Prop := ∀ (r : List Row), o = some r → call X0 114 [] [] = some ([[D.sl true 1 r]], [])
def P.spec_l3Words (o : Option (List Row)) (q : List V → List Cell → Res (List Row × List Cell)) (a : List V) (c : List Cell) : Res (List Row × List Cell) := match a, c with
  | [], [] => ⟨List Row, o, fun r => ([[D.sl true 1 r]], [])⟩
  | a, c => q a c
theorem P.spec_l3Words_ok {o : Option (List Row)} {q : List V → List Cell → Res (List Row × List Cell)} (h : H.spec_l3Words o) (hq : FnOk X0 114 q) : FnOk X0 114 (P.spec_l3Words o q) := by
  intro a c r hr
  unfold P.spec_l3Words at hr
  split at hr
  · obtain ⟨x, hx, rfl⟩ := Res.val_some hr
    exact h x hx
  · exact hq _ _ _ hr
noncomputable def M.spec_l3Words_C {R : Type} (k : List Row → Option R) : Option R :=
  k ([[D.str [66, 69, 71, 73, 78]], [D.str [69, 78, 68]], [D.str [102, 117, 110, 99, 116, 105, 111, 110]], [D.str [105, 102]], [D.str [101, 108, 115, 101]], [D.str [119, 104, 105, 108, 101]], [D.str [102, 111, 114]], [D.str [100, 111]], [D.str [98, 114, 101, 97, 107]], [D.str [99, 111, 110, 116, 105, 110, 117, 101]], [D.str [110, 101, 120, 116]], [D.str [101, 120, 105, 116]], [D.str [114, 101, 116, 117, 114, 110]], [D.str [100, 101, 108, 101, 116, 101]], [D.str [105, 110]], [D.str [112, 114, 105, 110, 116]], [D.str [112, 114, 105, 110, 116, 102]]])
noncomputable def M.spec_l3Words : Option (List Row) := M.spec_l3Words_C some
theorem M.spec_l3Words_n {R : Type} (k : List Row → Option R) : M.spec_l3Words_C k = (M.spec_l3Words_C some).bind k := by
  simp only [M.spec_l3Words_C, bif_bind, bind_bind, some_bind, none_bind, sumE_bind, optE_bind, letE_bind]
noncomputable def K.spec_l3Words : KonC := knil
noncomputable def L.spec_l3Words : LoopC := lnil
theorem E.spec_l3Words {R : Type} (k : List Row → List Cell → Option R) : bodyC X0 (K.spec_l3Words) (L.spec_l3Words) 114 [] [] k = M.spec_l3Words_C (fun r => k [[D.sl true 1 r]] []) := by kernel_rfl
theorem LC.spec_l3Words : loops (codeOf X0.P 114) = [] := by kernel_rfl
theorem C.spec_l3Words : H.spec_l3Words (M.spec_l3Words) := by
  intro r h
  exact fn_sound (enc := fun r => ([[D.sl true 1 r]], [])) (K := K.spec_l3Words) (L := L.spec_l3Words) (by kernel_rfl) knil_ok (by rw [LC.spec_l3Words]; exact LOk.nil) (by rw [E.spec_l3Words, M.spec_l3Words_n] <;> rfl) h

/-! spec_l3Find -/
def H.spec_l3Find (o : List Row → List UInt8 → Option (Int)) : Prop := ∀ (l : List Row) (s' : List UInt8) (r : Int), o l s' = some r → call X0 99 [V.d (D.sl false 1 l), V.d (D.str s')] [] = some ([[D.int IntKind.i64 r]], [])
def P.spec_l3Find (o : List Row → List UInt8 → Option (Int)) (q : List V → List Cell → Res (List Row × List Cell)) (a : List V) (c : List Cell) : Res (List Row × List Cell) := match a, c with
  | [V.d (D.sl false 1 l), V.d (D.str s')], [] => ⟨Int, o l s', fun r => ([[D.int IntKind.i64 r]], [])⟩
  | a, c => q a c
theorem P.spec_l3Find_ok {o : List Row → List UInt8 → Option (Int)} {q : List V → List Cell → Res (List Row × List Cell)} (h : H.spec_l3Find o) (hq : FnOk X0 99 q) : FnOk X0 99 (P.spec_l3Find o q) := by
  intro a c r hr
  unfold P.spec_l3Find at hr
  split at hr
  · obtain ⟨x, hx, rfl⟩ := Res.val_some hr
    exact h _ _ x hx
  · exact hq _ _ _ hr
noncomputable def M.spec_l3Find_l2_C {R : Type} (l : List Row) (s' : List UInt8) (s : Int) (kn : Int → Option R) (ke : (Int) ⊕ (Int) → Option R) : Option R := match s with
  | i =>
    bif decide (i < (↑l.length : Int)) then
     ((idx l i).bind fun row99 =>
      ((cStr row99 0).bind fun s100 => (bif s100 == s' then (ke (.inl i)) else (kn (IntKind.i64.wrap (i + 1)))))) else (ke (.inr i))
noncomputable def M.spec_l3Find_l2_b (l : List Row) (s' : List UInt8) (s : Int) : Option ((Int) ⊕ ((Int) ⊕ (Int))) := M.spec_l3Find_l2_C l s' s (fun s => some (.inl s)) (fun t => some (.inr t))
noncomputable def M.spec_l3Find_l2 (l : List Row) (s' : List UInt8) (s : Int) : Option ((Int) ⊕ (Int)) := loopM (M.spec_l3Find_l2_b l s') s
theorem M.spec_l3Find_l2_n {R : Type} (l : List Row) (s' : List UInt8) (s : Int) (kn : Int → Option R) (ke : (Int) ⊕ (Int) → Option R) : M.spec_l3Find_l2_C l s' s kn ke = (M.spec_l3Find_l2_b l s' s).bind fun r => match r with | .inl s => kn s | .inr t => ke t := by
  skip
  all_goals
    simp only [M.spec_l3Find_l2_b, M.spec_l3Find_l2_C, bif_bind, bind_bind, some_bind, none_bind, sumE_bind, optE_bind, letE_bind]
def A.spec_l3Find_l2 (l : List Row) (s' : List UInt8) : Alt (Ex × St) := .sum (.leaf (Int) (fun t => (Ex.ret, { tm := [(4, V.d (D.int IntKind.i64 t))], mem := [] }))) (.leaf (Int) (fun t => (Ex.exit 0, { tm := [(0, V.d (D.sl false 1 l)), (1, V.d (D.str s')), (5, V.d (D.int IntKind.i64 t)), (9, V.d (D.bool false))], mem := [] })))
def T.spec_l3Find_l2 (l : List Row) (s' : List UInt8) (s : Int) : St := match s with
  | i => { tm := [(0, V.d (D.sl false 1 l)), (1, V.d (D.str s')), (5, V.d (D.int IntKind.i64 i))], mem := [] }
noncomputable def K.spec_l3Find_l2 : KonC := knil
noncomputable def L.spec_l3Find_l2 : LoopC := lnil
theorem E.spec_l3Find_l2 {R : Type} (l : List Row) (s' : List UInt8) (s : Int) (k : Ex → St → Option R) : denC X0 (K.spec_l3Find_l2) (L.spec_l3Find_l2) 99 (loopCode X0.P 99 2) (T.spec_l3Find_l2 l s' s) k = M.spec_l3Find_l2_C l s' s (fun s => k .normal (T.spec_l3Find_l2 l s' s)) (fun t => (A.spec_l3Find_l2 l s').go t fun r => k r.1 r.2) := by
  skip
  all_goals kernel_rfl
theorem LC.spec_l3Find_l2 : loops (loopCode X0.P 99 2) = [] := by kernel_rfl
noncomputable def PL.spec_l3Find_l2 (S : St) : ResA (Ex × St) := match S with
  | { tm := [(0, V.d (D.sl false 1 l)), (1, V.d (D.str s')), (5, V.d (D.int IntKind.i64 i))], mem := [] } => ⟨A.spec_l3Find_l2 l s', M.spec_l3Find_l2 l s' i⟩
  | _ => .none
theorem C.spec_l3Find_l2 : LpOk X0 99 2 (loopCode X0.P 99 2) (PL.spec_l3Find_l2) := by
  refine ⟨by kernel_rfl, fun S r hr => ?_⟩
  unfold PL.spec_l3Find_l2 at hr
  split at hr
  · obtain ⟨x, hx, rfl⟩ := ResA.val_some hr
    exact lp_sound (K := K.spec_l3Find_l2) (L := L.spec_l3Find_l2) (b := M.spec_l3Find_l2_b _ _) (tm := T.spec_l3Find_l2 _ _) (tx := (A.spec_l3Find_l2 _ _).enc) knil_ok (by rw [LC.spec_l3Find_l2]; exact LOk.nil) (fun s => by rw [E.spec_l3Find_l2, M.spec_l3Find_l2_n]; congr 1; funext r; cases r <;> first | rfl | exact Alt.go_eq _ _ _) (by intro t; rcases t with t | t <;> first | (intro h; cases h) | (intro h; cases h)) hx (s := _)
  · cases hr
noncomputable def M.spec_l3Find_C {R : Type} (l : List Row) (s' : List UInt8) (k : Int → Option R) : Option R :=
  (M.spec_l3Find_l2 l s' 0).bind fun u103 =>
  sumE u103 (fun t101 => (k t101)) fun u104 =>
   letE u104 fun t102 => (k (-1))
noncomputable def M.spec_l3Find (l : List Row) (s' : List UInt8) : Option (Int) := M.spec_l3Find_C l s' some
theorem M.spec_l3Find_n {R : Type} (l : List Row) (s' : List UInt8) (k : Int → Option R) : M.spec_l3Find_C l s' k = (M.spec_l3Find_C l s' some).bind k := by
  simp only [M.spec_l3Find_C, bif_bind, bind_bind, some_bind, none_bind, sumE_bind, optE_bind, letE_bind]
noncomputable def K.spec_l3Find : KonC := knil
noncomputable def L.spec_l3Find : LoopC := (lcons 2 (PL.spec_l3Find_l2) lnil)
theorem E.spec_l3Find {R : Type} (l : List Row) (s' : List UInt8) (k : List Row → List Cell → Option R) : bodyC X0 (K.spec_l3Find) (L.spec_l3Find) 99 [V.d (D.sl false 1 l), V.d (D.str s')] [] k = M.spec_l3Find_C l s' (fun r => k [[D.int IntKind.i64 r]] []) := by kernel_rfl
theorem LC.spec_l3Find : loops (codeOf X0.P 99) = [loopCode X0.P 99 2] := by kernel_rfl
theorem C.spec_l3Find : H.spec_l3Find (M.spec_l3Find) := by
  intro l s' r h
  exact fn_sound (enc := fun r => ([[D.int IntKind.i64 r]], [])) (K := K.spec_l3Find) (L := L.spec_l3Find) (by kernel_rfl) knil_ok (by rw [LC.spec_l3Find]; exact (LOk.cons (LpOk.at (C.spec_l3Find_l2) (fun _ => rfl)) LOk.nil)) (by rw [E.spec_l3Find, M.spec_l3Find_n] <;> rfl) h

/-! spec_KeywordOf -/
def H.spec_KeywordOf (o : List UInt8 → Option (Int)) : Prop := ∀ (s' : List UInt8) (r : Int), o s' = some r → call X0 93 [V.d (D.str s')] [] = some ([[D.int IntKind.i64 r]], [])
def P.spec_KeywordOf (o : List UInt8 → Option (Int)) (q : List V → List Cell → Res (List Row × List Cell)) (a : List V) (c : List Cell) : Res (List Row × List Cell) := match a, c with
  | [V.d (D.str s')], [] => ⟨Int, o s', fun r => ([[D.int IntKind.i64 r]], [])⟩
  | a, c => q a c
theorem P.spec_KeywordOf_ok {o : List UInt8 → Option (Int)} {q : List V → List Cell → Res (List Row × List Cell)} (h : H.spec_KeywordOf o) (hq : FnOk X0 93 q) : FnOk X0 93 (P.spec_KeywordOf o q) := by
  intro a c r hr
  unfold P.spec_KeywordOf at hr
  split at hr
  · obtain ⟨x, hx, rfl⟩ := Res.val_some hr
    exact h _ x hx
  · exact hq _ _ _ hr
noncomputable def M.spec_KeywordOf_C {R : Type} (s' : List UInt8) (k : Int → Option R) : Option R :=
  M.spec_l3Words.bind fun r98 =>
   ((M.spec_l3Find r98 s').bind fun r105 => (bif decide (r105 < 0) then (k 0) else (k (IntKind.i64.wrap (10 + r105)))))
noncomputable def M.spec_KeywordOf (s' : List UInt8) : Option (Int) := M.spec_KeywordOf_C s' some
theorem M.spec_KeywordOf_n {R : Type} (s' : List UInt8) (k : Int → Option R) : M.spec_KeywordOf_C s' k = (M.spec_KeywordOf_C s' some).bind k := by
  simp only [M.spec_KeywordOf_C, bif_bind, bind_bind, some_bind, none_bind, sumE_bind, optE_bind, letE_bind]
noncomputable def K.spec_KeywordOf : KonC := (kcons 114 (P.spec_l3Words M.spec_l3Words pnil) (kcons 99 (P.spec_l3Find M.spec_l3Find pnil) knil))
noncomputable def L.spec_KeywordOf : LoopC := lnil
theorem E.spec_KeywordOf {R : Type} (s' : List UInt8) (k : List Row → List Cell → Option R) : bodyC X0 (K.spec_KeywordOf) (L.spec_KeywordOf) 93 [V.d (D.str s')] [] k = M.spec_KeywordOf_C s' (fun r => k [[D.int IntKind.i64 r]] []) := by kernel_rfl
theorem LC.spec_KeywordOf : loops (codeOf X0.P 93) = [] := by kernel_rfl
theorem C.spec_KeywordOf : H.spec_KeywordOf (M.spec_KeywordOf) := by
  intro s' r h
  exact fn_sound (enc := fun r => ([[D.int IntKind.i64 r]], [])) (K := K.spec_KeywordOf) (L := L.spec_KeywordOf) (by kernel_rfl) (kcons_ok (P.spec_l3Words_ok C.spec_l3Words pnil_ok) (kcons_ok (P.spec_l3Find_ok C.spec_l3Find pnil_ok) knil_ok)) (by rw [LC.spec_KeywordOf]; exact LOk.nil) (by rw [E.spec_KeywordOf, M.spec_KeywordOf_n] <;> rfl) h

/-! spec_l3Builtins -/
def H.spec_l3Builtins (o : Option (List Row)) : Prop := ∀ (r : List Row), o = some r → call X0 100 [] [] = some ([[D.sl true 1 r]], [])
def P.spec_l3Builtins (o : Option (List Row)) (q : List V → List Cell → Res (List Row × List Cell)) (a : List V) (c : List Cell) : Res (List Row × List Cell) := match a, c with
  | [], [] => ⟨List Row, o, fun r => ([[D.sl true 1 r]], [])⟩
  | a, c => q a c
theorem P.spec_l3Builtins_ok {o : Option (List Row)} {q : List V → List Cell → Res (List Row × List Cell)} (h : H.spec_l3Builtins o) (hq : FnOk X0 100 q) : FnOk X0 100 (P.spec_l3Builtins o q) := by
  intro a c r hr
  unfold P.spec_l3Builtins at hr
  split at hr
  · obtain ⟨x, hx, rfl⟩ := Res.val_some hr
    exact h x hx
  · exact hq _ _ _ hr
noncomputable def M.spec_l3Builtins_C {R : Type} (k : List Row → Option R) : Option R :=
  k ([[D.str [97, 116, 97, 110, 50]], [D.str [99, 108, 111, 115, 101]], [D.str [99, 111, 115]], [D.str [101, 120, 112]], [D.str [103, 115, 117, 98]], [D.str [105, 110, 100, 101, 120]], [D.str [105, 110, 116]], [D.str [108, 101, 110, 103, 116, 104]], [D.str [108, 111, 103]], [D.str [109, 97, 116, 99, 104]], [D.str [114, 97, 110, 100]], [D.str [115, 105, 110]], [D.str [115, 112, 108, 105, 116]], [D.str [115, 112, 114, 105, 110, 116, 102]], [D.str [115, 113, 114, 116]], [D.str [115, 114, 97, 110, 100]], [D.str [115, 117, 98]], [D.str [115, 117, 98, 115, 116, 114]], [D.str [115, 121, 115, 116, 101, 109]], [D.str [116, 111, 108, 111, 119, 101, 114]], [D.str [116, 111, 117, 112, 112, 101, 114]]])
noncomputable def M.spec_l3Builtins : Option (List Row) := M.spec_l3Builtins_C some
theorem M.spec_l3Builtins_n {R : Type} (k : List Row → Option R) : M.spec_l3Builtins_C k = (M.spec_l3Builtins_C some).bind k := by
  simp only [M.spec_l3Builtins_C, bif_bind, bind_bind, some_bind, none_bind, sumE_bind, optE_bind, letE_bind]
noncomputable def K.spec_l3Builtins : KonC := knil
noncomputable def L.spec_l3Builtins : LoopC := lnil
theorem E.spec_l3Builtins {R : Type} (k : List Row → List Cell → Option R) : bodyC X0 (K.spec_l3Builtins) (L.spec_l3Builtins) 100 [] [] k = M.spec_l3Builtins_C (fun r => k [[D.sl true 1 r]] []) := by kernel_rfl
theorem LC.spec_l3Builtins : loops (codeOf X0.P 100) = [] := by kernel_rfl
theorem C.spec_l3Builtins : H.spec_l3Builtins (M.spec_l3Builtins) := by
  intro r h
  exact fn_sound (enc := fun r => ([[D.sl true 1 r]], [])) (K := K.spec_l3Builtins) (L := L.spec_l3Builtins) (by kernel_rfl) knil_ok (by rw [LC.spec_l3Builtins]; exact LOk.nil) (by rw [E.spec_l3Builtins, M.spec_l3Builtins_n] <;> rfl) h

/-! spec_IsBuiltin -/
def H.spec_IsBuiltin (o : List UInt8 → Option (Bool)) : Prop := ∀ (s' : List UInt8) (r : Bool), o s' = some r → call X0 81 [V.d (D.str s')] [] = some ([[D.bool r]], [])
def P.spec_IsBuiltin (o : List UInt8 → Option (Bool)) (q : List V → List Cell → Res (List Row × List Cell)) (a : List V) (c : List Cell) : Res (List Row × List Cell) := match a, c with
  | [V.d (D.str s')], [] => ⟨Bool, o s', fun r => ([[D.bool r]], [])⟩
  | a, c => q a c
theorem P.spec_IsBuiltin_ok {o : List UInt8 → Option (Bool)} {q : List V → List Cell → Res (List Row × List Cell)} (h : H.spec_IsBuiltin o) (hq : FnOk X0 81 q) : FnOk X0 81 (P.spec_IsBuiltin o q) := by
  intro a c r hr
  unfold P.spec_IsBuiltin at hr
  split at hr
  · obtain ⟨x, hx, rfl⟩ := Res.val_some hr
    exact h _ x hx
  · exact hq _ _ _ hr
noncomputable def M.spec_IsBuiltin_C {R : Type} (s' : List UInt8) (k : Bool → Option R) : Option R :=
  M.spec_l3Builtins.bind fun r107 => ((M.spec_l3Find r107 s').bind fun r108 => (k (decide (r108 ≥ 0))))
noncomputable def M.spec_IsBuiltin (s' : List UInt8) : Option (Bool) := M.spec_IsBuiltin_C s' some
theorem M.spec_IsBuiltin_n {R : Type} (s' : List UInt8) (k : Bool → Option R) : M.spec_IsBuiltin_C s' k = (M.spec_IsBuiltin_C s' some).bind k := by
  simp only [M.spec_IsBuiltin_C, bif_bind, bind_bind, some_bind, none_bind, sumE_bind, optE_bind, letE_bind]
noncomputable def K.spec_IsBuiltin : KonC := (kcons 100 (P.spec_l3Builtins M.spec_l3Builtins pnil) (kcons 99 (P.spec_l3Find M.spec_l3Find pnil) knil))
noncomputable def L.spec_IsBuiltin : LoopC := lnil
theorem E.spec_IsBuiltin {R : Type} (s' : List UInt8) (k : List Row → List Cell → Option R) : bodyC X0 (K.spec_IsBuiltin) (L.spec_IsBuiltin) 81 [V.d (D.str s')] [] k = M.spec_IsBuiltin_C s' (fun r => k [[D.bool r]] []) := by kernel_rfl
theorem LC.spec_IsBuiltin : loops (codeOf X0.P 81) = [] := by kernel_rfl
theorem C.spec_IsBuiltin : H.spec_IsBuiltin (M.spec_IsBuiltin) := by
  intro s' r h
  exact fn_sound (enc := fun r => ([[D.bool r]], [])) (K := K.spec_IsBuiltin) (L := L.spec_IsBuiltin) (by kernel_rfl) (kcons_ok (P.spec_l3Builtins_ok C.spec_l3Builtins pnil_ok) (kcons_ok (P.spec_l3Find_ok C.spec_l3Find pnil_ok) knil_ok)) (by rw [LC.spec_IsBuiltin]; exact LOk.nil) (by rw [E.spec_IsBuiltin, M.spec_IsBuiltin_n] <;> rfl) h

/-! spec_NameOk -/
def H.spec_NameOk (o : List UInt8 → Option (Bool)) : Prop := ∀ (s' : List UInt8) (r : Bool), o s' = some r → call X0 79 [V.d (D.str s')] [] = some ([[D.bool r]], [])
def P.spec_NameOk (o : List UInt8 → Option (Bool)) (q : List V → List Cell → Res (List Row × List Cell)) (a : List V) (c : List Cell) : Res (List Row × List Cell) := match a, c with
  | [V.d (D.str s')], [] => ⟨Bool, o s', fun r => ([[D.bool r]], [])⟩
  | a, c => q a c
theorem P.spec_NameOk_ok {o : List UInt8 → Option (Bool)} {q : List V → List Cell → Res (List Row × List Cell)} (h : H.spec_NameOk o) (hq : FnOk X0 79 q) : FnOk X0 79 (P.spec_NameOk o q) := by
  intro a c r hr
  unfold P.spec_NameOk at hr
  split at hr
  · obtain ⟨x, hx, rfl⟩ := Res.val_some hr
    exact h _ x hx
  · exact hq _ _ _ hr
noncomputable def M.spec_NameOk_C {R : Type} (s' : List UInt8) (k : Bool → Option R) : Option R :=
  (M.spec_NameShape s').bind fun r97 =>
   (bif r97 then
    ((M.spec_KeywordOf s').bind fun r106 => (bif r106 == 0 then ((M.spec_IsBuiltin s').bind fun r109 => (k !r109)) else (k false))) else (k false))
noncomputable def M.spec_NameOk (s' : List UInt8) : Option (Bool) := M.spec_NameOk_C s' some
theorem M.spec_NameOk_n {R : Type} (s' : List UInt8) (k : Bool → Option R) : M.spec_NameOk_C s' k = (M.spec_NameOk_C s' some).bind k := by
  simp only [M.spec_NameOk_C, bif_bind, bind_bind, some_bind, none_bind, sumE_bind, optE_bind, letE_bind]
noncomputable def K.spec_NameOk : KonC := (kcons 92 (P.spec_NameShape M.spec_NameShape pnil) (kcons 93 (P.spec_KeywordOf M.spec_KeywordOf pnil) (kcons 81 (P.spec_IsBuiltin M.spec_IsBuiltin pnil) knil)))
noncomputable def L.spec_NameOk : LoopC := lnil
theorem E.spec_NameOk {R : Type} (s' : List UInt8) (k : List Row → List Cell → Option R) : bodyC X0 (K.spec_NameOk) (L.spec_NameOk) 79 [V.d (D.str s')] [] k = M.spec_NameOk_C s' (fun r => k [[D.bool r]] []) := by kernel_rfl
theorem LC.spec_NameOk : loops (codeOf X0.P 79) = [] := by kernel_rfl
theorem C.spec_NameOk : H.spec_NameOk (M.spec_NameOk) := by
  intro s' r h
  exact fn_sound (enc := fun r => ([[D.bool r]], [])) (K := K.spec_NameOk) (L := L.spec_NameOk) (by kernel_rfl) (kcons_ok (P.spec_NameShape_ok C.spec_NameShape pnil_ok) (kcons_ok (P.spec_KeywordOf_ok C.spec_KeywordOf pnil_ok) (kcons_ok (P.spec_IsBuiltin_ok C.spec_IsBuiltin pnil_ok) knil_ok))) (by rw [LC.spec_NameOk]; exact LOk.nil) (by rw [E.spec_NameOk, M.spec_NameOk_n] <;> rfl) h

/-! spec_l4Plain -/
def H.spec_l4Plain (o : List UInt8 → Option (Bool)) : Prop := ∀ (s' : List UInt8) (r : Bool), o s' = some r → call X0 94 [V.d (D.str s')] [] = some ([[D.bool r]], [])
def P.spec_l4Plain (o : List UInt8 → Option (Bool)) (q : List V → List Cell → Res (List Row × List Cell)) (a : List V) (c : List Cell) : Res (List Row × List Cell) := match a, c with
  | [V.d (D.str s')], [] => ⟨Bool, o s', fun r => ([[D.bool r]], [])⟩
  | a, c => q a c
theorem P.spec_l4Plain_ok {o : List UInt8 → Option (Bool)} {q : List V → List Cell → Res (List Row × List Cell)} (h : H.spec_l4Plain o) (hq : FnOk X0 94 q) : FnOk X0 94 (P.spec_l4Plain o q) := by
  intro a c r hr
  unfold P.spec_l4Plain at hr
  split at hr
  · obtain ⟨x, hx, rfl⟩ := Res.val_some hr
    exact h _ x hx
  · exact hq _ _ _ hr
noncomputable def M.spec_l4Plain_l2_C {R : Type} (s' : List UInt8) (s : Int) (kn : Int → Option R) (ke : (Unit) ⊕ (Int) → Option R) : Option R := match s with
  | i =>
    bif decide (i < (↑s'.length : Int)) then
     ((idx s' i).bind fun c117 => (bif (↑c117.toNat : Int) == 10 then (ke (.inl ())) else (kn (IntKind.i64.wrap (i + 1))))) else (ke (.inr i))
noncomputable def M.spec_l4Plain_l2_b (s' : List UInt8) (s : Int) : Option ((Int) ⊕ ((Unit) ⊕ (Int))) := M.spec_l4Plain_l2_C s' s (fun s => some (.inl s)) (fun t => some (.inr t))
noncomputable def M.spec_l4Plain_l2 (s' : List UInt8) (s : Int) : Option ((Unit) ⊕ (Int)) := loopM (M.spec_l4Plain_l2_b s') s
theorem M.spec_l4Plain_l2_n {R : Type} (s' : List UInt8) (s : Int) (kn : Int → Option R) (ke : (Unit) ⊕ (Int) → Option R) : M.spec_l4Plain_l2_C s' s kn ke = (M.spec_l4Plain_l2_b s' s).bind fun r => match r with | .inl s => kn s | .inr t => ke t := by
  skip
  all_goals
    simp only [M.spec_l4Plain_l2_b, M.spec_l4Plain_l2_C, bif_bind, bind_bind, some_bind, none_bind, sumE_bind, optE_bind, letE_bind]
def A.spec_l4Plain_l2 (s' : List UInt8) : Alt (Ex × St) := .sum (.leaf (Unit) (fun t => (Ex.ret, { tm := [(2, V.d (D.bool false))], mem := [] }))) (.leaf (Int) (fun t => (Ex.exit 0, { tm := [(0, V.d (D.str s')), (3, V.d (D.int IntKind.i64 t)), (7, V.d (D.bool false))], mem := [] })))
def T.spec_l4Plain_l2 (s' : List UInt8) (s : Int) : St := match s with
  | i => { tm := [(0, V.d (D.str s')), (3, V.d (D.int IntKind.i64 i))], mem := [] }
noncomputable def K.spec_l4Plain_l2 : KonC := knil
noncomputable def L.spec_l4Plain_l2 : LoopC := lnil
theorem E.spec_l4Plain_l2 {R : Type} (s' : List UInt8) (s : Int) (k : Ex → St → Option R) : denC X0 (K.spec_l4Plain_l2) (L.spec_l4Plain_l2) 94 (loopCode X0.P 94 2) (T.spec_l4Plain_l2 s' s) k = M.spec_l4Plain_l2_C s' s (fun s => k .normal (T.spec_l4Plain_l2 s' s)) (fun t => (A.spec_l4Plain_l2 s').go t fun r => k r.1 r.2) := by
  skip
  all_goals kernel_rfl
theorem LC.spec_l4Plain_l2 : loops (loopCode X0.P 94 2) = [] := by kernel_rfl
noncomputable def PL.spec_l4Plain_l2 (S : St) : ResA (Ex × St) := match S with
  | { tm := [(0, V.d (D.str s')), (3, V.d (D.int IntKind.i64 i))], mem := [] } => ⟨A.spec_l4Plain_l2 s', M.spec_l4Plain_l2 s' i⟩
  | _ => .none
theorem C.spec_l4Plain_l2 : LpOk X0 94 2 (loopCode X0.P 94 2) (PL.spec_l4Plain_l2) := by
  refine ⟨by kernel_rfl, fun S r hr => ?_⟩
  unfold PL.spec_l4Plain_l2 at hr
  split at hr
  · obtain ⟨x, hx, rfl⟩ := ResA.val_some hr
    exact lp_sound (K := K.spec_l4Plain_l2) (L := L.spec_l4Plain_l2) (b := M.spec_l4Plain_l2_b _) (tm := T.spec_l4Plain_l2 _) (tx := (A.spec_l4Plain_l2 _).enc) knil_ok (by rw [LC.spec_l4Plain_l2]; exact LOk.nil) (fun s => by rw [E.spec_l4Plain_l2, M.spec_l4Plain_l2_n]; congr 1; funext r; cases r <;> first | rfl | exact Alt.go_eq _ _ _) (by intro t; rcases t with t | t <;> first | (intro h; cases h) | (intro h; cases h)) hx (s := _)
  · cases hr
noncomputable def M.spec_l4Plain_C {R : Type} (s' : List UInt8) (k : Bool → Option R) : Option R :=
  (M.spec_l4Plain_l2 s' 0).bind fun u120 =>
  sumE u120 (fun t118 => (k false)) fun u121 =>
   letE u121 fun t119 => (k true)
noncomputable def M.spec_l4Plain (s' : List UInt8) : Option (Bool) := M.spec_l4Plain_C s' some
theorem M.spec_l4Plain_n {R : Type} (s' : List UInt8) (k : Bool → Option R) : M.spec_l4Plain_C s' k = (M.spec_l4Plain_C s' some).bind k := by
  simp only [M.spec_l4Plain_C, bif_bind, bind_bind, some_bind, none_bind, sumE_bind, optE_bind, letE_bind]
noncomputable def K.spec_l4Plain : KonC := knil
noncomputable def L.spec_l4Plain : LoopC := (lcons 2 (PL.spec_l4Plain_l2) lnil)
theorem E.spec_l4Plain {R : Type} (s' : List UInt8) (k : List Row → List Cell → Option R) : bodyC X0 (K.spec_l4Plain) (L.spec_l4Plain) 94 [V.d (D.str s')] [] k = M.spec_l4Plain_C s' (fun r => k [[D.bool r]] []) := by kernel_rfl
theorem LC.spec_l4Plain : loops (codeOf X0.P 94) = [loopCode X0.P 94 2] := by kernel_rfl
theorem C.spec_l4Plain : H.spec_l4Plain (M.spec_l4Plain) := by
  intro s' r h
  exact fn_sound (enc := fun r => ([[D.bool r]], [])) (K := K.spec_l4Plain) (L := L.spec_l4Plain) (by kernel_rfl) knil_ok (by rw [LC.spec_l4Plain]; exact (LOk.cons (LpOk.at (C.spec_l4Plain_l2) (fun _ => rfl)) LOk.nil)) (by rw [E.spec_l4Plain, M.spec_l4Plain_n] <;> rfl) h

/-! spec_l4Byte -/
def H.spec_l4Byte (o : List UInt8 → Int → Option (Int)) : Prop := ∀ (s' : List UInt8) (at' : Int) (r : Int), o s' at' = some r → call X0 116 [V.d (D.str s'), V.d (D.int IntKind.i64 at')] [] = some ([[D.int IntKind.i64 r]], [])
def P.spec_l4Byte (o : List UInt8 → Int → Option (Int)) (q : List V → List Cell → Res (List Row × List Cell)) (a : List V) (c : List Cell) : Res (List Row × List Cell) := match a, c with
  | [V.d (D.str s'), V.d (D.int IntKind.i64 at')], [] => ⟨Int, o s' at', fun r => ([[D.int IntKind.i64 r]], [])⟩
  | a, c => q a c
theorem P.spec_l4Byte_ok {o : List UInt8 → Int → Option (Int)} {q : List V → List Cell → Res (List Row × List Cell)} (h : H.spec_l4Byte o) (hq : FnOk X0 116 q) : FnOk X0 116 (P.spec_l4Byte o q) := by
  intro a c r hr
  unfold P.spec_l4Byte at hr
  split at hr
  · obtain ⟨x, hx, rfl⟩ := Res.val_some hr
    exact h _ _ x hx
  · exact hq _ _ _ hr
noncomputable def M.spec_l4Byte_C {R : Type} (s' : List UInt8) (at' : Int) (k : Int → Option R) : Option R :=
  bif decide (at' < 0) then (k (-1)) else
   (bif decide (at' ≥ (↑s'.length : Int)) then (k (-1)) else ((idx s' at').bind fun c123 => (k (IntKind.i64.wrap (↑c123.toNat : Int)))))
noncomputable def M.spec_l4Byte (s' : List UInt8) (at' : Int) : Option (Int) := M.spec_l4Byte_C s' at' some
theorem M.spec_l4Byte_n {R : Type} (s' : List UInt8) (at' : Int) (k : Int → Option R) : M.spec_l4Byte_C s' at' k = (M.spec_l4Byte_C s' at' some).bind k := by
  simp only [M.spec_l4Byte_C, bif_bind, bind_bind, some_bind, none_bind, sumE_bind, optE_bind, letE_bind]
noncomputable def K.spec_l4Byte : KonC := knil
noncomputable def L.spec_l4Byte : LoopC := lnil
theorem E.spec_l4Byte {R : Type} (s' : List UInt8) (at' : Int) (k : List Row → List Cell → Option R) : bodyC X0 (K.spec_l4Byte) (L.spec_l4Byte) 116 [V.d (D.str s'), V.d (D.int IntKind.i64 at')] [] k = M.spec_l4Byte_C s' at' (fun r => k [[D.int IntKind.i64 r]] []) := by kernel_rfl
theorem LC.spec_l4Byte : loops (codeOf X0.P 116) = [] := by kernel_rfl
theorem C.spec_l4Byte : H.spec_l4Byte (M.spec_l4Byte) := by
  intro s' at' r h
  exact fn_sound (enc := fun r => ([[D.int IntKind.i64 r]], [])) (K := K.spec_l4Byte) (L := L.spec_l4Byte) (by kernel_rfl) knil_ok (by rw [LC.spec_l4Byte]; exact LOk.nil) (by rw [E.spec_l4Byte, M.spec_l4Byte_n] <;> rfl) h

/-! spec_l4Digits -/
def H.spec_l4Digits (o : List UInt8 → Int → Option (Int)) : Prop := ∀ (s' : List UInt8) (at' : Int) (r : Int), o s' at' = some r → call X0 115 [V.d (D.str s'), V.d (D.int IntKind.i64 at')] [] = some ([[D.int IntKind.i64 r]], [])
def P.spec_l4Digits (o : List UInt8 → Int → Option (Int)) (q : List V → List Cell → Res (List Row × List Cell)) (a : List V) (c : List Cell) : Res (List Row × List Cell) := match a, c with
  | [V.d (D.str s'), V.d (D.int IntKind.i64 at')], [] => ⟨Int, o s' at', fun r => ([[D.int IntKind.i64 r]], [])⟩
  | a, c => q a c
theorem P.spec_l4Digits_ok {o : List UInt8 → Int → Option (Int)} {q : List V → List Cell → Res (List Row × List Cell)} (h : H.spec_l4Digits o) (hq : FnOk X0 115 q) : FnOk X0 115 (P.spec_l4Digits o q) := by
  intro a c r hr
  unfold P.spec_l4Digits at hr
  split at hr
  · obtain ⟨x, hx, rfl⟩ := Res.val_some hr
    exact h _ _ x hx
  · exact hq _ _ _ hr
noncomputable def M.spec_l4Digits_l1_C {R : Type} (s' : List UInt8) (s : Int) (kn : Int → Option R) (ke : Int → Option R) : Option R := match s with
  | at' =>
    (M.spec_l4Byte s' at').bind fun r124 =>
     ((M.spec_IsDigit r124).bind fun r125 => (bif r125 then (kn (IntKind.i64.wrap (at' + 1))) else (ke at')))
noncomputable def M.spec_l4Digits_l1_b (s' : List UInt8) (s : Int) : Option ((Int) ⊕ (Int)) := M.spec_l4Digits_l1_C s' s (fun s => some (.inl s)) (fun t => some (.inr t))
noncomputable def M.spec_l4Digits_l1 (s' : List UInt8) (s : Int) : Option (Int) := loopM (M.spec_l4Digits_l1_b s') s
theorem M.spec_l4Digits_l1_n {R : Type} (s' : List UInt8) (s : Int) (kn : Int → Option R) (ke : Int → Option R) : M.spec_l4Digits_l1_C s' s kn ke = (M.spec_l4Digits_l1_b s' s).bind fun r => match r with | .inl s => kn s | .inr t => ke t := by
  skip
  all_goals
    simp only [M.spec_l4Digits_l1_b, M.spec_l4Digits_l1_C, bif_bind, bind_bind, some_bind, none_bind, sumE_bind, optE_bind, letE_bind]
def A.spec_l4Digits_l1 (s' : List UInt8) : Alt (Ex × St) := .leaf (Int) (fun t => (Ex.exit 0, { tm := [(0, V.d (D.str s')), (1, V.d (D.int IntKind.i64 t)), (8, V.d (D.bool false))], mem := [] }))
def T.spec_l4Digits_l1 (s' : List UInt8) (s : Int) : St := match s with
  | at' => { tm := [(0, V.d (D.str s')), (1, V.d (D.int IntKind.i64 at'))], mem := [] }
noncomputable def K.spec_l4Digits_l1 : KonC := (kcons 116 (P.spec_l4Byte M.spec_l4Byte pnil) (kcons 126 (P.spec_IsDigit M.spec_IsDigit pnil) knil))
noncomputable def L.spec_l4Digits_l1 : LoopC := lnil
theorem E.spec_l4Digits_l1 {R : Type} (s' : List UInt8) (s : Int) (k : Ex → St → Option R) : denC X0 (K.spec_l4Digits_l1) (L.spec_l4Digits_l1) 115 (loopCode X0.P 115 1) (T.spec_l4Digits_l1 s' s) k = M.spec_l4Digits_l1_C s' s (fun s => k .normal (T.spec_l4Digits_l1 s' s)) (fun t => (A.spec_l4Digits_l1 s').go t fun r => k r.1 r.2) := by
  skip
  all_goals kernel_rfl
theorem LC.spec_l4Digits_l1 : loops (loopCode X0.P 115 1) = [] := by kernel_rfl
noncomputable def PL.spec_l4Digits_l1 (S : St) : ResA (Ex × St) := match S with
  | { tm := [(0, V.d (D.str s')), (1, V.d (D.int IntKind.i64 at'))], mem := [] } => ⟨A.spec_l4Digits_l1 s', M.spec_l4Digits_l1 s' at'⟩
  | _ => .none
theorem C.spec_l4Digits_l1 : LpOk X0 115 1 (loopCode X0.P 115 1) (PL.spec_l4Digits_l1) := by
  refine ⟨by kernel_rfl, fun S r hr => ?_⟩
  unfold PL.spec_l4Digits_l1 at hr
  split at hr
  · obtain ⟨x, hx, rfl⟩ := ResA.val_some hr
    exact lp_sound (K := K.spec_l4Digits_l1) (L := L.spec_l4Digits_l1) (b := M.spec_l4Digits_l1_b _) (tm := T.spec_l4Digits_l1 _) (tx := (A.spec_l4Digits_l1 _).enc) (kcons_ok (P.spec_l4Byte_ok C.spec_l4Byte pnil_ok) (kcons_ok (P.spec_IsDigit_ok C.spec_IsDigit pnil_ok) knil_ok)) (by rw [LC.spec_l4Digits_l1]; exact LOk.nil) (fun s => by rw [E.spec_l4Digits_l1, M.spec_l4Digits_l1_n]; congr 1; funext r; cases r <;> first | rfl | exact Alt.go_eq _ _ _) (by intro t; intro h; cases h) hx (s := _)
  · cases hr
noncomputable def M.spec_l4Digits_C {R : Type} (s' : List UInt8) (at' : Int) (k : Int → Option R) : Option R :=
  (M.spec_l4Digits_l1 s' at').bind fun t126 => (k t126)
noncomputable def M.spec_l4Digits (s' : List UInt8) (at' : Int) : Option (Int) := M.spec_l4Digits_C s' at' some
theorem M.spec_l4Digits_n {R : Type} (s' : List UInt8) (at' : Int) (k : Int → Option R) : M.spec_l4Digits_C s' at' k = (M.spec_l4Digits_C s' at' some).bind k := by
  simp only [M.spec_l4Digits_C, bif_bind, bind_bind, some_bind, none_bind, sumE_bind, optE_bind, letE_bind]
noncomputable def K.spec_l4Digits : KonC := knil
noncomputable def L.spec_l4Digits : LoopC := (lcons 1 (PL.spec_l4Digits_l1) lnil)
theorem E.spec_l4Digits {R : Type} (s' : List UInt8) (at' : Int) (k : List Row → List Cell → Option R) : bodyC X0 (K.spec_l4Digits) (L.spec_l4Digits) 115 [V.d (D.str s'), V.d (D.int IntKind.i64 at')] [] k = M.spec_l4Digits_C s' at' (fun r => k [[D.int IntKind.i64 r]] []) := by kernel_rfl
theorem LC.spec_l4Digits : loops (codeOf X0.P 115) = [loopCode X0.P 115 1] := by kernel_rfl
theorem C.spec_l4Digits : H.spec_l4Digits (M.spec_l4Digits) := by
  intro s' at' r h
  exact fn_sound (enc := fun r => ([[D.int IntKind.i64 r]], [])) (K := K.spec_l4Digits) (L := L.spec_l4Digits) (by kernel_rfl) knil_ok (by rw [LC.spec_l4Digits]; exact (LOk.cons (LpOk.at (C.spec_l4Digits_l1) (fun _ => rfl)) LOk.nil)) (by rw [E.spec_l4Digits, M.spec_l4Digits_n] <;> rfl) h

/-! spec_NumEnd -/
def H.spec_NumEnd (o : List UInt8 → Int → Option (Int)) : Prop := ∀ (s' : List UInt8) (at' : Int) (r : Int), o s' at' = some r → call X0 95 [V.d (D.str s'), V.d (D.int IntKind.i64 at')] [] = some ([[D.int IntKind.i64 r]], [])
def P.spec_NumEnd (o : List UInt8 → Int → Option (Int)) (q : List V → List Cell → Res (List Row × List Cell)) (a : List V) (c : List Cell) : Res (List Row × List Cell) := match a, c with
  | [V.d (D.str s'), V.d (D.int IntKind.i64 at')], [] => ⟨Int, o s' at', fun r => ([[D.int IntKind.i64 r]], [])⟩
  | a, c => q a c
theorem P.spec_NumEnd_ok {o : List UInt8 → Int → Option (Int)} {q : List V → List Cell → Res (List Row × List Cell)} (h : H.spec_NumEnd o) (hq : FnOk X0 95 q) : FnOk X0 95 (P.spec_NumEnd o q) := by
  intro a c r hr
  unfold P.spec_NumEnd at hr
  split at hr
  · obtain ⟨x, hx, rfl⟩ := Res.val_some hr
    exact h _ _ x hx
  · exact hq _ _ _ hr
noncomputable def M.spec_NumEnd_C {R : Type} (s' : List UInt8) (at' : Int) (k : Int → Option R) : Option R :=
  bif decide (at' < 0) then (k (-1)) else
   ((M.spec_l4Digits s' at').bind fun r127 =>
    ((M.spec_l4Byte s' r127).bind fun r128 =>
     (bif r128 == 46 then
      ((M.spec_l4Digits s' (IntKind.i64.wrap (r127 + 1))).bind fun r129 =>
       (bif r127 == at' then
        (bif r129 == IntKind.i64.wrap (r127 + 1) then (k (-1)) else
         (bif r129 == at' then (k (-1)) else
          ((M.spec_l4Byte s' r129).bind fun r130 =>
           (bif r130 == 101 then
            ((M.spec_l4Byte s' (IntKind.i64.wrap (r129 + 1))).bind fun r131 =>
             (bif r131 == 43 then
              ((M.spec_l4Digits s' (IntKind.i64.wrap (IntKind.i64.wrap (r129 + 1) + 1))).bind fun r132 =>
               (bif decide (r132 > IntKind.i64.wrap (IntKind.i64.wrap (r129 + 1) + 1)) then
                ((M.spec_l4Digits s' (IntKind.i64.wrap (IntKind.i64.wrap (r129 + 1) + 1))).bind fun r133 => (k r133)) else (k r129))) else
              ((M.spec_l4Byte s' (IntKind.i64.wrap (r129 + 1))).bind fun r134 =>
               (bif r134 == 45 then
                ((M.spec_l4Digits s' (IntKind.i64.wrap (IntKind.i64.wrap (r129 + 1) + 1))).bind fun r135 =>
                 (bif decide (r135 > IntKind.i64.wrap (IntKind.i64.wrap (r129 + 1) + 1)) then
                  ((M.spec_l4Digits s' (IntKind.i64.wrap (IntKind.i64.wrap (r129 + 1) + 1))).bind fun r136 => (k r136)) else (k r129))) else
                ((M.spec_l4Digits s' (IntKind.i64.wrap (r129 + 1))).bind fun r137 =>
                 (bif decide (r137 > IntKind.i64.wrap (r129 + 1)) then ((M.spec_l4Digits s' (IntKind.i64.wrap (r129 + 1))).bind fun r138 => (k r138)) else (k r129))))))) else
            ((M.spec_l4Byte s' r129).bind fun r139 =>
             (bif r139 == 69 then
              ((M.spec_l4Byte s' (IntKind.i64.wrap (r129 + 1))).bind fun r140 =>
               (bif r140 == 43 then
                ((M.spec_l4Digits s' (IntKind.i64.wrap (IntKind.i64.wrap (r129 + 1) + 1))).bind fun r141 =>
                 (bif decide (r141 > IntKind.i64.wrap (IntKind.i64.wrap (r129 + 1) + 1)) then
                  ((M.spec_l4Digits s' (IntKind.i64.wrap (IntKind.i64.wrap (r129 + 1) + 1))).bind fun r142 => (k r142)) else (k r129))) else
                ((M.spec_l4Byte s' (IntKind.i64.wrap (r129 + 1))).bind fun r143 =>
                 (bif r143 == 45 then
                  ((M.spec_l4Digits s' (IntKind.i64.wrap (IntKind.i64.wrap (r129 + 1) + 1))).bind fun r144 =>
                   (bif decide (r144 > IntKind.i64.wrap (IntKind.i64.wrap (r129 + 1) + 1)) then
                    ((M.spec_l4Digits s' (IntKind.i64.wrap (IntKind.i64.wrap (r129 + 1) + 1))).bind fun r145 => (k r145)) else (k r129))) else
                  ((M.spec_l4Digits s' (IntKind.i64.wrap (r129 + 1))).bind fun r146 =>
                   (bif decide (r146 > IntKind.i64.wrap (r129 + 1)) then ((M.spec_l4Digits s' (IntKind.i64.wrap (r129 + 1))).bind fun r147 => (k r147)) else (k r129))))))) else (k r129))))))) else
        (bif r129 == at' then (k (-1)) else
         ((M.spec_l4Byte s' r129).bind fun r148 =>
          (bif r148 == 101 then
           ((M.spec_l4Byte s' (IntKind.i64.wrap (r129 + 1))).bind fun r149 =>
            (bif r149 == 43 then
             ((M.spec_l4Digits s' (IntKind.i64.wrap (IntKind.i64.wrap (r129 + 1) + 1))).bind fun r150 =>
              (bif decide (r150 > IntKind.i64.wrap (IntKind.i64.wrap (r129 + 1) + 1)) then
               ((M.spec_l4Digits s' (IntKind.i64.wrap (IntKind.i64.wrap (r129 + 1) + 1))).bind fun r151 => (k r151)) else (k r129))) else
             ((M.spec_l4Byte s' (IntKind.i64.wrap (r129 + 1))).bind fun r152 =>
              (bif r152 == 45 then
               ((M.spec_l4Digits s' (IntKind.i64.wrap (IntKind.i64.wrap (r129 + 1) + 1))).bind fun r153 =>
                (bif decide (r153 > IntKind.i64.wrap (IntKind.i64.wrap (r129 + 1) + 1)) then
                 ((M.spec_l4Digits s' (IntKind.i64.wrap (IntKind.i64.wrap (r129 + 1) + 1))).bind fun r154 => (k r154)) else (k r129))) else
               ((M.spec_l4Digits s' (IntKind.i64.wrap (r129 + 1))).bind fun r155 =>
                (bif decide (r155 > IntKind.i64.wrap (r129 + 1)) then ((M.spec_l4Digits s' (IntKind.i64.wrap (r129 + 1))).bind fun r156 => (k r156)) else (k r129))))))) else
           ((M.spec_l4Byte s' r129).bind fun r157 =>
            (bif r157 == 69 then
             ((M.spec_l4Byte s' (IntKind.i64.wrap (r129 + 1))).bind fun r158 =>
              (bif r158 == 43 then
               ((M.spec_l4Digits s' (IntKind.i64.wrap (IntKind.i64.wrap (r129 + 1) + 1))).bind fun r159 =>
                (bif decide (r159 > IntKind.i64.wrap (IntKind.i64.wrap (r129 + 1) + 1)) then
                 ((M.spec_l4Digits s' (IntKind.i64.wrap (IntKind.i64.wrap (r129 + 1) + 1))).bind fun r160 => (k r160)) else (k r129))) else
               ((M.spec_l4Byte s' (IntKind.i64.wrap (r129 + 1))).bind fun r161 =>
                (bif r161 == 45 then
                 ((M.spec_l4Digits s' (IntKind.i64.wrap (IntKind.i64.wrap (r129 + 1) + 1))).bind fun r162 =>
                  (bif decide (r162 > IntKind.i64.wrap (IntKind.i64.wrap (r129 + 1) + 1)) then
                   ((M.spec_l4Digits s' (IntKind.i64.wrap (IntKind.i64.wrap (r129 + 1) + 1))).bind fun r163 => (k r163)) else (k r129))) else
                 ((M.spec_l4Digits s' (IntKind.i64.wrap (r129 + 1))).bind fun r164 =>
                  (bif decide (r164 > IntKind.i64.wrap (r129 + 1)) then ((M.spec_l4Digits s' (IntKind.i64.wrap (r129 + 1))).bind fun r165 => (k r165)) else (k r129))))))) else (k r129)))))))) else
      (bif r127 == at' then (k (-1)) else
       ((M.spec_l4Byte s' r127).bind fun r166 =>
        (bif r166 == 101 then
         ((M.spec_l4Byte s' (IntKind.i64.wrap (r127 + 1))).bind fun r167 =>
          (bif r167 == 43 then
           ((M.spec_l4Digits s' (IntKind.i64.wrap (IntKind.i64.wrap (r127 + 1) + 1))).bind fun r168 =>
            (bif decide (r168 > IntKind.i64.wrap (IntKind.i64.wrap (r127 + 1) + 1)) then
             ((M.spec_l4Digits s' (IntKind.i64.wrap (IntKind.i64.wrap (r127 + 1) + 1))).bind fun r169 => (k r169)) else (k r127))) else
           ((M.spec_l4Byte s' (IntKind.i64.wrap (r127 + 1))).bind fun r170 =>
            (bif r170 == 45 then
             ((M.spec_l4Digits s' (IntKind.i64.wrap (IntKind.i64.wrap (r127 + 1) + 1))).bind fun r171 =>
              (bif decide (r171 > IntKind.i64.wrap (IntKind.i64.wrap (r127 + 1) + 1)) then
               ((M.spec_l4Digits s' (IntKind.i64.wrap (IntKind.i64.wrap (r127 + 1) + 1))).bind fun r172 => (k r172)) else (k r127))) else
             ((M.spec_l4Digits s' (IntKind.i64.wrap (r127 + 1))).bind fun r173 =>
              (bif decide (r173 > IntKind.i64.wrap (r127 + 1)) then ((M.spec_l4Digits s' (IntKind.i64.wrap (r127 + 1))).bind fun r174 => (k r174)) else (k r127))))))) else
         ((M.spec_l4Byte s' r127).bind fun r175 =>
          (bif r175 == 69 then
           ((M.spec_l4Byte s' (IntKind.i64.wrap (r127 + 1))).bind fun r176 =>
            (bif r176 == 43 then
             ((M.spec_l4Digits s' (IntKind.i64.wrap (IntKind.i64.wrap (r127 + 1) + 1))).bind fun r177 =>
              (bif decide (r177 > IntKind.i64.wrap (IntKind.i64.wrap (r127 + 1) + 1)) then
               ((M.spec_l4Digits s' (IntKind.i64.wrap (IntKind.i64.wrap (r127 + 1) + 1))).bind fun r178 => (k r178)) else (k r127))) else
             ((M.spec_l4Byte s' (IntKind.i64.wrap (r127 + 1))).bind fun r179 =>
              (bif r179 == 45 then
               ((M.spec_l4Digits s' (IntKind.i64.wrap (IntKind.i64.wrap (r127 + 1) + 1))).bind fun r180 =>
                (bif decide (r180 > IntKind.i64.wrap (IntKind.i64.wrap (r127 + 1) + 1)) then
                 ((M.spec_l4Digits s' (IntKind.i64.wrap (IntKind.i64.wrap (r127 + 1) + 1))).bind fun r181 => (k r181)) else (k r127))) else
               ((M.spec_l4Digits s' (IntKind.i64.wrap (r127 + 1))).bind fun r182 =>
                (bif decide (r182 > IntKind.i64.wrap (r127 + 1)) then ((M.spec_l4Digits s' (IntKind.i64.wrap (r127 + 1))).bind fun r183 => (k r183)) else (k r127))))))) else (k r127)))))))))
noncomputable def M.spec_NumEnd (s' : List UInt8) (at' : Int) : Option (Int) := M.spec_NumEnd_C s' at' some
theorem M.spec_NumEnd_n {R : Type} (s' : List UInt8) (at' : Int) (k : Int → Option R) : M.spec_NumEnd_C s' at' k = (M.spec_NumEnd_C s' at' some).bind k := by
  simp only [M.spec_NumEnd_C, bif_bind, bind_bind, some_bind, none_bind, sumE_bind, optE_bind, letE_bind]
noncomputable def K.spec_NumEnd : KonC := (kcons 115 (P.spec_l4Digits M.spec_l4Digits pnil) (kcons 116 (P.spec_l4Byte M.spec_l4Byte pnil) knil))
noncomputable def L.spec_NumEnd : LoopC := lnil
theorem E.spec_NumEnd {R : Type} (s' : List UInt8) (at' : Int) (k : List Row → List Cell → Option R) : bodyC X0 (K.spec_NumEnd) (L.spec_NumEnd) 95 [V.d (D.str s'), V.d (D.int IntKind.i64 at')] [] k = M.spec_NumEnd_C s' at' (fun r => k [[D.int IntKind.i64 r]] []) := by kernel_rfl
theorem LC.spec_NumEnd : loops (codeOf X0.P 95) = [] := by kernel_rfl
theorem C.spec_NumEnd : H.spec_NumEnd (M.spec_NumEnd) := by
  intro s' at' r h
  exact fn_sound (enc := fun r => ([[D.int IntKind.i64 r]], [])) (K := K.spec_NumEnd) (L := L.spec_NumEnd) (by kernel_rfl) (kcons_ok (P.spec_l4Digits_ok C.spec_l4Digits pnil_ok) (kcons_ok (P.spec_l4Byte_ok C.spec_l4Byte pnil_ok) knil_ok)) (by rw [LC.spec_NumEnd]; exact LOk.nil) (by rw [E.spec_NumEnd, M.spec_NumEnd_n] <;> rfl) h

/-! spec_l4Quoted -/
def H.spec_l4Quoted (o : List UInt8 → Int → Int → Option (Int)) : Prop := ∀ (s' : List UInt8) (at' : Int) (sign : Int) (r : Int), o s' at' sign = some r → call X0 117 [V.d (D.str s'), V.d (D.int IntKind.i64 at'), V.d (D.int IntKind.i64 sign)] [] = some ([[D.int IntKind.i64 r]], [])
def P.spec_l4Quoted (o : List UInt8 → Int → Int → Option (Int)) (q : List V → List Cell → Res (List Row × List Cell)) (a : List V) (c : List Cell) : Res (List Row × List Cell) := match a, c with
  | [V.d (D.str s'), V.d (D.int IntKind.i64 at'), V.d (D.int IntKind.i64 sign)], [] => ⟨Int, o s' at' sign, fun r => ([[D.int IntKind.i64 r]], [])⟩
  | a, c => q a c
theorem P.spec_l4Quoted_ok {o : List UInt8 → Int → Int → Option (Int)} {q : List V → List Cell → Res (List Row × List Cell)} (h : H.spec_l4Quoted o) (hq : FnOk X0 117 q) : FnOk X0 117 (P.spec_l4Quoted o q) := by
  intro a c r hr
  unfold P.spec_l4Quoted at hr
  split at hr
  · obtain ⟨x, hx, rfl⟩ := Res.val_some hr
    exact h _ _ _ x hx
  · exact hq _ _ _ hr
noncomputable def M.spec_l4Quoted_l4_C {R : Type} (s' : List UInt8) (sign : Int) (s : Int) (kn : Int → Option R) (ke : (Int) ⊕ (Int) → Option R) : Option R := match s with
  | i =>
    bif decide (i < (↑s'.length : Int)) then
     ((idx s' i).bind fun c186 =>
      (bif IntKind.i64.wrap (↑c186.toNat : Int) == sign then (ke (.inl (IntKind.i64.wrap (i + 1)))) else
       (bif IntKind.i64.wrap (↑c186.toNat : Int) == 10 then (ke (.inl (-1))) else
        (bif IntKind.i64.wrap (↑c186.toNat : Int) == 92 then
         ((M.spec_l4Byte s' (IntKind.i64.wrap (i + 1))).bind fun r187 =>
          (bif r187 == 10 then (ke (.inl (-1))) else (kn (IntKind.i64.wrap (IntKind.i64.wrap (i + 1) + 1))))) else (kn (IntKind.i64.wrap (i + 1))))))) else (ke (.inr i))
noncomputable def M.spec_l4Quoted_l4_b (s' : List UInt8) (sign : Int) (s : Int) : Option ((Int) ⊕ ((Int) ⊕ (Int))) := M.spec_l4Quoted_l4_C s' sign s (fun s => some (.inl s)) (fun t => some (.inr t))
noncomputable def M.spec_l4Quoted_l4 (s' : List UInt8) (sign : Int) (s : Int) : Option ((Int) ⊕ (Int)) := loopM (M.spec_l4Quoted_l4_b s' sign) s
theorem M.spec_l4Quoted_l4_n {R : Type} (s' : List UInt8) (sign : Int) (s : Int) (kn : Int → Option R) (ke : (Int) ⊕ (Int) → Option R) : M.spec_l4Quoted_l4_C s' sign s kn ke = (M.spec_l4Quoted_l4_b s' sign s).bind fun r => match r with | .inl s => kn s | .inr t => ke t := by
  skip
  all_goals
    simp only [M.spec_l4Quoted_l4_b, M.spec_l4Quoted_l4_C, bif_bind, bind_bind, some_bind, none_bind, sumE_bind, optE_bind, letE_bind]
def A.spec_l4Quoted_l4 (s' : List UInt8) (sign : Int) : Alt (Ex × St) := .sum (.leaf (Int) (fun t => (Ex.ret, { tm := [(6, V.d (D.int IntKind.i64 t))], mem := [] }))) (.leaf (Int) (fun t => (Ex.exit 0, { tm := [(0, V.d (D.str s')), (2, V.d (D.int IntKind.i64 sign)), (7, V.d (D.int IntKind.i64 t)), (18, V.d (D.bool false))], mem := [] })))
def T.spec_l4Quoted_l4 (s' : List UInt8) (sign : Int) (s : Int) : St := match s with
  | i => { tm := [(0, V.d (D.str s')), (2, V.d (D.int IntKind.i64 sign)), (7, V.d (D.int IntKind.i64 i))], mem := [] }
noncomputable def K.spec_l4Quoted_l4 : KonC := (kcons 116 (P.spec_l4Byte M.spec_l4Byte pnil) knil)
noncomputable def L.spec_l4Quoted_l4 : LoopC := lnil
theorem E.spec_l4Quoted_l4 {R : Type} (s' : List UInt8) (sign : Int) (s : Int) (k : Ex → St → Option R) : denC X0 (K.spec_l4Quoted_l4) (L.spec_l4Quoted_l4) 117 (loopCode X0.P 117 4) (T.spec_l4Quoted_l4 s' sign s) k = M.spec_l4Quoted_l4_C s' sign s (fun s => k .normal (T.spec_l4Quoted_l4 s' sign s)) (fun t => (A.spec_l4Quoted_l4 s' sign).go t fun r => k r.1 r.2) := by
  skip
  all_goals kernel_rfl
theorem LC.spec_l4Quoted_l4 : loops (loopCode X0.P 117 4) = [] := by kernel_rfl
noncomputable def PL.spec_l4Quoted_l4 (S : St) : ResA (Ex × St) := match S with
  | { tm := [(0, V.d (D.str s')), (2, V.d (D.int IntKind.i64 sign)), (7, V.d (D.int IntKind.i64 i))], mem := [] } => ⟨A.spec_l4Quoted_l4 s' sign, M.spec_l4Quoted_l4 s' sign i⟩
  | _ => .none
theorem C.spec_l4Quoted_l4 : LpOk X0 117 4 (loopCode X0.P 117 4) (PL.spec_l4Quoted_l4) := by
  refine ⟨by kernel_rfl, fun S r hr => ?_⟩
  unfold PL.spec_l4Quoted_l4 at hr
  split at hr
  · obtain ⟨x, hx, rfl⟩ := ResA.val_some hr
    exact lp_sound (K := K.spec_l4Quoted_l4) (L := L.spec_l4Quoted_l4) (b := M.spec_l4Quoted_l4_b _ _) (tm := T.spec_l4Quoted_l4 _ _) (tx := (A.spec_l4Quoted_l4 _ _).enc) (kcons_ok (P.spec_l4Byte_ok C.spec_l4Byte pnil_ok) knil_ok) (by rw [LC.spec_l4Quoted_l4]; exact LOk.nil) (fun s => by rw [E.spec_l4Quoted_l4, M.spec_l4Quoted_l4_n]; congr 1; funext r; cases r <;> first | rfl | exact Alt.go_eq _ _ _) (by intro t; rcases t with t | t <;> first | (intro h; cases h) | (intro h; cases h)) hx (s := _)
  · cases hr
noncomputable def M.spec_l4Quoted_C {R : Type} (s' : List UInt8) (at' : Int) (sign : Int) (k : Int → Option R) : Option R :=
  (M.spec_l4Byte s' at').bind fun r185 =>
   (bif r185 != sign then (k (-1)) else
    ((M.spec_l4Quoted_l4 s' sign (IntKind.i64.wrap (at' + 1))).bind fun u190 =>
    sumE u190 (fun t188 => (k t188)) fun u191 =>
     letE u191 fun t189 => (k (-1))))
noncomputable def M.spec_l4Quoted (s' : List UInt8) (at' : Int) (sign : Int) : Option (Int) := M.spec_l4Quoted_C s' at' sign some
theorem M.spec_l4Quoted_n {R : Type} (s' : List UInt8) (at' : Int) (sign : Int) (k : Int → Option R) : M.spec_l4Quoted_C s' at' sign k = (M.spec_l4Quoted_C s' at' sign some).bind k := by
  simp only [M.spec_l4Quoted_C, bif_bind, bind_bind, some_bind, none_bind, sumE_bind, optE_bind, letE_bind]
noncomputable def K.spec_l4Quoted : KonC := (kcons 116 (P.spec_l4Byte M.spec_l4Byte pnil) knil)
noncomputable def L.spec_l4Quoted : LoopC := (lcons 4 (PL.spec_l4Quoted_l4) lnil)
theorem E.spec_l4Quoted {R : Type} (s' : List UInt8) (at' : Int) (sign : Int) (k : List Row → List Cell → Option R) : bodyC X0 (K.spec_l4Quoted) (L.spec_l4Quoted) 117 [V.d (D.str s'), V.d (D.int IntKind.i64 at'), V.d (D.int IntKind.i64 sign)] [] k = M.spec_l4Quoted_C s' at' sign (fun r => k [[D.int IntKind.i64 r]] []) := by kernel_rfl
theorem LC.spec_l4Quoted : loops (codeOf X0.P 117) = [loopCode X0.P 117 4] := by kernel_rfl
theorem C.spec_l4Quoted : H.spec_l4Quoted (M.spec_l4Quoted) := by
  intro s' at' sign r h
  exact fn_sound (enc := fun r => ([[D.int IntKind.i64 r]], [])) (K := K.spec_l4Quoted) (L := L.spec_l4Quoted) (by kernel_rfl) (kcons_ok (P.spec_l4Byte_ok C.spec_l4Byte pnil_ok) knil_ok) (by rw [LC.spec_l4Quoted]; exact (LOk.cons (LpOk.at (C.spec_l4Quoted_l4) (fun _ => rfl)) LOk.nil)) (by rw [E.spec_l4Quoted, M.spec_l4Quoted_n] <;> rfl) h

/-! spec_StrEnd -/
def H.spec_StrEnd (o : List UInt8 → Int → Option (Int)) : Prop := ∀ (s' : List UInt8) (at' : Int) (r : Int), o s' at' = some r → call X0 96 [V.d (D.str s'), V.d (D.int IntKind.i64 at')] [] = some ([[D.int IntKind.i64 r]], [])
def P.spec_StrEnd (o : List UInt8 → Int → Option (Int)) (q : List V → List Cell → Res (List Row × List Cell)) (a : List V) (c : List Cell) : Res (List Row × List Cell) := match a, c with
  | [V.d (D.str s'), V.d (D.int IntKind.i64 at')], [] => ⟨Int, o s' at', fun r => ([[D.int IntKind.i64 r]], [])⟩
  | a, c => q a c
theorem P.spec_StrEnd_ok {o : List UInt8 → Int → Option (Int)} {q : List V → List Cell → Res (List Row × List Cell)} (h : H.spec_StrEnd o) (hq : FnOk X0 96 q) : FnOk X0 96 (P.spec_StrEnd o q) := by
  intro a c r hr
  unfold P.spec_StrEnd at hr
  split at hr
  · obtain ⟨x, hx, rfl⟩ := Res.val_some hr
    exact h _ _ x hx
  · exact hq _ _ _ hr
noncomputable def M.spec_StrEnd_C {R : Type} (s' : List UInt8) (at' : Int) (k : Int → Option R) : Option R :=
  (M.spec_l4Quoted s' at' 34).bind fun r192 => (k r192)
noncomputable def M.spec_StrEnd (s' : List UInt8) (at' : Int) : Option (Int) := M.spec_StrEnd_C s' at' some
theorem M.spec_StrEnd_n {R : Type} (s' : List UInt8) (at' : Int) (k : Int → Option R) : M.spec_StrEnd_C s' at' k = (M.spec_StrEnd_C s' at' some).bind k := by
  simp only [M.spec_StrEnd_C, bif_bind, bind_bind, some_bind, none_bind, sumE_bind, optE_bind, letE_bind]
noncomputable def K.spec_StrEnd : KonC := (kcons 117 (P.spec_l4Quoted M.spec_l4Quoted pnil) knil)
noncomputable def L.spec_StrEnd : LoopC := lnil
theorem E.spec_StrEnd {R : Type} (s' : List UInt8) (at' : Int) (k : List Row → List Cell → Option R) : bodyC X0 (K.spec_StrEnd) (L.spec_StrEnd) 96 [V.d (D.str s'), V.d (D.int IntKind.i64 at')] [] k = M.spec_StrEnd_C s' at' (fun r => k [[D.int IntKind.i64 r]] []) := by kernel_rfl
theorem LC.spec_StrEnd : loops (codeOf X0.P 96) = [] := by kernel_rfl
theorem C.spec_StrEnd : H.spec_StrEnd (M.spec_StrEnd) := by
  intro s' at' r h
  exact fn_sound (enc := fun r => ([[D.int IntKind.i64 r]], [])) (K := K.spec_StrEnd) (L := L.spec_StrEnd) (by kernel_rfl) (kcons_ok (P.spec_l4Quoted_ok C.spec_l4Quoted pnil_ok) knil_ok) (by rw [LC.spec_StrEnd]; exact LOk.nil) (by rw [E.spec_StrEnd, M.spec_StrEnd_n] <;> rfl) h

/-! spec_EreEnd -/
def H.spec_EreEnd (o : List UInt8 → Int → Option (Int)) : Prop := ∀ (s' : List UInt8) (at' : Int) (r : Int), o s' at' = some r → call X0 97 [V.d (D.str s'), V.d (D.int IntKind.i64 at')] [] = some ([[D.int IntKind.i64 r]], [])
def P.spec_EreEnd (o : List UInt8 → Int → Option (Int)) (q : List V → List Cell → Res (List Row × List Cell)) (a : List V) (c : List Cell) : Res (List Row × List Cell) := match a, c with
  | [V.d (D.str s'), V.d (D.int IntKind.i64 at')], [] => ⟨Int, o s' at', fun r => ([[D.int IntKind.i64 r]], [])⟩
  | a, c => q a c
theorem P.spec_EreEnd_ok {o : List UInt8 → Int → Option (Int)} {q : List V → List Cell → Res (List Row × List Cell)} (h : H.spec_EreEnd o) (hq : FnOk X0 97 q) : FnOk X0 97 (P.spec_EreEnd o q) := by
  intro a c r hr
  unfold P.spec_EreEnd at hr
  split at hr
  · obtain ⟨x, hx, rfl⟩ := Res.val_some hr
    exact h _ _ x hx
  · exact hq _ _ _ hr
noncomputable def M.spec_EreEnd_C {R : Type} (s' : List UInt8) (at' : Int) (k : Int → Option R) : Option R :=
  (M.spec_l4Quoted s' at' 47).bind fun r194 => (bif r194 == IntKind.i64.wrap (at' + 2) then (k (-1)) else (k r194))
noncomputable def M.spec_EreEnd (s' : List UInt8) (at' : Int) : Option (Int) := M.spec_EreEnd_C s' at' some
theorem M.spec_EreEnd_n {R : Type} (s' : List UInt8) (at' : Int) (k : Int → Option R) : M.spec_EreEnd_C s' at' k = (M.spec_EreEnd_C s' at' some).bind k := by
  simp only [M.spec_EreEnd_C, bif_bind, bind_bind, some_bind, none_bind, sumE_bind, optE_bind, letE_bind]
noncomputable def K.spec_EreEnd : KonC := (kcons 117 (P.spec_l4Quoted M.spec_l4Quoted pnil) knil)
noncomputable def L.spec_EreEnd : LoopC := lnil
theorem E.spec_EreEnd {R : Type} (s' : List UInt8) (at' : Int) (k : List Row → List Cell → Option R) : bodyC X0 (K.spec_EreEnd) (L.spec_EreEnd) 97 [V.d (D.str s'), V.d (D.int IntKind.i64 at')] [] k = M.spec_EreEnd_C s' at' (fun r => k [[D.int IntKind.i64 r]] []) := by kernel_rfl
theorem LC.spec_EreEnd : loops (codeOf X0.P 97) = [] := by kernel_rfl
theorem C.spec_EreEnd : H.spec_EreEnd (M.spec_EreEnd) := by
  intro s' at' r h
  exact fn_sound (enc := fun r => ([[D.int IntKind.i64 r]], [])) (K := K.spec_EreEnd) (L := L.spec_EreEnd) (by kernel_rfl) (kcons_ok (P.spec_l4Quoted_ok C.spec_l4Quoted pnil_ok) knil_ok) (by rw [LC.spec_EreEnd]; exact LOk.nil) (by rw [E.spec_EreEnd, M.spec_EreEnd_n] <;> rfl) h

/-! spec_l3Signs -/
def H.spec_l3Signs (o : Option (List Row)) : Prop := ∀ (r : List Row), o = some r → call X0 118 [] [] = some ([[D.sl true 1 r]], [])
def P.spec_l3Signs (o : Option (List Row)) (q : List V → List Cell → Res (List Row × List Cell)) (a : List V) (c : List Cell) : Res (List Row × List Cell) := match a, c with
  | [], [] => ⟨List Row, o, fun r => ([[D.sl true 1 r]], [])⟩
  | a, c => q a c
theorem P.spec_l3Signs_ok {o : Option (List Row)} {q : List V → List Cell → Res (List Row × List Cell)} (h : H.spec_l3Signs o) (hq : FnOk X0 118 q) : FnOk X0 118 (P.spec_l3Signs o q) := by
  intro a c r hr
  unfold P.spec_l3Signs at hr
  split at hr
  · obtain ⟨x, hx, rfl⟩ := Res.val_some hr
    exact h x hx
  · exact hq _ _ _ hr
noncomputable def M.spec_l3Signs_C {R : Type} (k : List Row → Option R) : Option R :=
  k ([[D.str [123]], [D.str [125]], [D.str [40]], [D.str [41]], [D.str [91]], [D.str [93]], [D.str [44]], [D.str [59]], [D.str [43, 61]], [D.str [45, 61]], [D.str [42, 61]], [D.str [47, 61]], [D.str [37, 61]], [D.str [94, 61]], [D.str [124, 124]], [D.str [38, 38]], [D.str [33, 126]], [D.str [61, 61]], [D.str [60, 61]], [D.str [62, 61]], [D.str [33, 61]], [D.str [43, 43]], [D.str [45, 45]], [D.str [62, 62]], [D.str [61]], [D.str [43]], [D.str [45]], [D.str [42]], [D.str [47]], [D.str [37]], [D.str [94]], [D.str [33]], [D.str [62]], [D.str [60]], [D.str [124]], [D.str [63]], [D.str [58]], [D.str [126]], [D.str [36]]])
noncomputable def M.spec_l3Signs : Option (List Row) := M.spec_l3Signs_C some
theorem M.spec_l3Signs_n {R : Type} (k : List Row → Option R) : M.spec_l3Signs_C k = (M.spec_l3Signs_C some).bind k := by
  simp only [M.spec_l3Signs_C, bif_bind, bind_bind, some_bind, none_bind, sumE_bind, optE_bind, letE_bind]
noncomputable def K.spec_l3Signs : KonC := knil
noncomputable def L.spec_l3Signs : LoopC := lnil
theorem E.spec_l3Signs {R : Type} (k : List Row → List Cell → Option R) : bodyC X0 (K.spec_l3Signs) (L.spec_l3Signs) 118 [] [] k = M.spec_l3Signs_C (fun r => k [[D.sl true 1 r]] []) := by kernel_rfl
theorem LC.spec_l3Signs : loops (codeOf X0.P 118) = [] := by kernel_rfl
theorem C.spec_l3Signs : H.spec_l3Signs (M.spec_l3Signs) := by
  intro r h
  exact fn_sound (enc := fun r => ([[D.sl true 1 r]], [])) (K := K.spec_l3Signs) (L := L.spec_l3Signs) (by kernel_rfl) knil_ok (by rw [LC.spec_l3Signs]; exact LOk.nil) (by rw [E.spec_l3Signs, M.spec_l3Signs_n] <;> rfl) h

/-! spec_SpellOf -/
def H.spec_SpellOf (o : Int → Option (List UInt8)) : Prop := ∀ (kind : Int) (r : List UInt8), o kind = some r → call X0 98 [V.d (D.int IntKind.i64 kind)] [] = some ([[D.str r]], [])
def P.spec_SpellOf (o : Int → Option (List UInt8)) (q : List V → List Cell → Res (List Row × List Cell)) (a : List V) (c : List Cell) : Res (List Row × List Cell) := match a, c with
  | [V.d (D.int IntKind.i64 kind)], [] => ⟨List UInt8, o kind, fun r => ([[D.str r]], [])⟩
  | a, c => q a c
theorem P.spec_SpellOf_ok {o : Int → Option (List UInt8)} {q : List V → List Cell → Res (List Row × List Cell)} (h : H.spec_SpellOf o) (hq : FnOk X0 98 q) : FnOk X0 98 (P.spec_SpellOf o q) := by
  intro a c r hr
  unfold P.spec_SpellOf at hr
  split at hr
  · obtain ⟨x, hx, rfl⟩ := Res.val_some hr
    exact h _ x hx
  · exact hq _ _ _ hr
noncomputable def M.spec_SpellOf_C {R : Type} (kind : Int) (k : List UInt8 → Option R) : Option R :=
  bif kind == 1 then (k [10]) else
   ((M.spec_l1In kind 10 26).bind fun r199 =>
    (bif r199 then
     (M.spec_l3Words.bind fun r200 =>
      ((idx r200 (IntKind.i64.wrap (kind - 10))).bind fun row201 =>
       ((r200[(IntKind.i64.wrap (kind - 10)).toNat]?).bind fun row202 => ((cStr row202 0).bind fun s203 => (k s203))))) else
     ((M.spec_l1In kind 30 68).bind fun r204 =>
      (bif r204 then
       (M.spec_l3Signs.bind fun r205 =>
        ((idx r205 (IntKind.i64.wrap (kind - 30))).bind fun row206 =>
         ((r205[(IntKind.i64.wrap (kind - 30)).toNat]?).bind fun row207 => ((cStr row207 0).bind fun s208 => (k s208))))) else (k [])))))
noncomputable def M.spec_SpellOf (kind : Int) : Option (List UInt8) := M.spec_SpellOf_C kind some
theorem M.spec_SpellOf_n {R : Type} (kind : Int) (k : List UInt8 → Option R) : M.spec_SpellOf_C kind k = (M.spec_SpellOf_C kind some).bind k := by
  simp only [M.spec_SpellOf_C, bif_bind, bind_bind, some_bind, none_bind, sumE_bind, optE_bind, letE_bind]
noncomputable def K.spec_SpellOf : KonC := (kcons 51 (P.spec_l1In M.spec_l1In pnil) (kcons 114 (P.spec_l3Words M.spec_l3Words pnil) (kcons 118 (P.spec_l3Signs M.spec_l3Signs pnil) knil)))
noncomputable def L.spec_SpellOf : LoopC := lnil
theorem E.spec_SpellOf {R : Type} (kind : Int) (k : List Row → List Cell → Option R) : bodyC X0 (K.spec_SpellOf) (L.spec_SpellOf) 98 [V.d (D.int IntKind.i64 kind)] [] k = M.spec_SpellOf_C kind (fun r => k [[D.str r]] []) := by kernel_rfl
theorem LC.spec_SpellOf : loops (codeOf X0.P 98) = [] := by kernel_rfl
theorem C.spec_SpellOf : H.spec_SpellOf (M.spec_SpellOf) := by
  intro kind r h
  exact fn_sound (enc := fun r => ([[D.str r]], [])) (K := K.spec_SpellOf) (L := L.spec_SpellOf) (by kernel_rfl) (kcons_ok (P.spec_l1In_ok C.spec_l1In pnil_ok) (kcons_ok (P.spec_l3Words_ok C.spec_l3Words pnil_ok) (kcons_ok (P.spec_l3Signs_ok C.spec_l3Signs pnil_ok) knil_ok))) (by rw [LC.spec_SpellOf]; exact LOk.nil) (by rw [E.spec_SpellOf, M.spec_SpellOf_n] <;> rfl) h

/-! spec_TokenOk -/
def H.spec_TokenOk (o : Int → List UInt8 → Int → Option (Bool)) : Prop := ∀ (t' : Int) (t'1 : List UInt8) (t'2 : Int) (r : Bool), o t' t'1 t'2 = some r → call X0 80 [V.agg [V.d (D.int IntKind.i64 t'), V.d (D.str t'1), V.d (D.int IntKind.i64 t'2)]] [] = some ([[D.bool r]], [])
def P.spec_TokenOk (o : Int → List UInt8 → Int → Option (Bool)) (q : List V → List Cell → Res (List Row × List Cell)) (a : List V) (c : List Cell) : Res (List Row × List Cell) := match a, c with
  | [V.agg [V.d (D.int IntKind.i64 t'), V.d (D.str t'1), V.d (D.int IntKind.i64 t'2)]], [] => ⟨Bool, o t' t'1 t'2, fun r => ([[D.bool r]], [])⟩
  | a, c => q a c
theorem P.spec_TokenOk_ok {o : Int → List UInt8 → Int → Option (Bool)} {q : List V → List Cell → Res (List Row × List Cell)} (h : H.spec_TokenOk o) (hq : FnOk X0 80 q) : FnOk X0 80 (P.spec_TokenOk o q) := by
  intro a c r hr
  unfold P.spec_TokenOk at hr
  split at hr
  · obtain ⟨x, hx, rfl⟩ := Res.val_some hr
    exact h _ _ _ x hx
  · exact hq _ _ _ hr
noncomputable def M.spec_TokenOk_C {R : Type} (t' : Int) (t'1 : List UInt8) (t'2 : Int) (k : Bool → Option R) : Option R :=
  bif t' == 2 then
   (bif decide ((↑t'1.length : Int) > 0) then
    ((idx t'1 0).bind fun c116 =>
     (bif (↑c116.toNat : Int) == 35 then ((M.spec_l4Plain t'1).bind fun r122 => (k r122)) else (k false))) else (k false)) else
   (bif t' == 3 then
    (bif decide ((↑t'1.length : Int) > 0) then ((M.spec_NumEnd t'1 0).bind fun r184 => (k (r184 == (↑t'1.length : Int)))) else (k false)) else
    (bif t' == 4 then ((M.spec_StrEnd t'1 0).bind fun r193 => (k (r193 == (↑t'1.length : Int)))) else
     (bif t' == 5 then ((M.spec_EreEnd t'1 0).bind fun r195 => (k (r195 == (↑t'1.length : Int)))) else
      (bif t' == 6 then ((M.spec_NameOk t'1).bind fun r196 => (k r196)) else
       (bif t' == 7 then ((M.spec_NameOk t'1).bind fun r197 => (k r197)) else
        (bif t' == 8 then ((M.spec_IsBuiltin t'1).bind fun r198 => (k r198)) else
         (bif !t'1 == [] then ((M.spec_SpellOf t').bind fun r209 => (k (r209 == t'1))) else (k false))))))))
noncomputable def M.spec_TokenOk (t' : Int) (t'1 : List UInt8) (t'2 : Int) : Option (Bool) := M.spec_TokenOk_C t' t'1 t'2 some
theorem M.spec_TokenOk_n {R : Type} (t' : Int) (t'1 : List UInt8) (t'2 : Int) (k : Bool → Option R) : M.spec_TokenOk_C t' t'1 t'2 k = (M.spec_TokenOk_C t' t'1 t'2 some).bind k := by
  simp only [M.spec_TokenOk_C, bif_bind, bind_bind, some_bind, none_bind, sumE_bind, optE_bind, letE_bind]
noncomputable def K.spec_TokenOk : KonC := (kcons 94 (P.spec_l4Plain M.spec_l4Plain pnil) (kcons 95 (P.spec_NumEnd M.spec_NumEnd pnil) (kcons 96 (P.spec_StrEnd M.spec_StrEnd pnil) (kcons 97 (P.spec_EreEnd M.spec_EreEnd pnil) (kcons 79 (P.spec_NameOk M.spec_NameOk pnil) (kcons 81 (P.spec_IsBuiltin M.spec_IsBuiltin pnil) (kcons 98 (P.spec_SpellOf M.spec_SpellOf pnil) knil)))))))
noncomputable def L.spec_TokenOk : LoopC := lnil
theorem E.spec_TokenOk {R : Type} (t' : Int) (t'1 : List UInt8) (t'2 : Int) (k : List Row → List Cell → Option R) : bodyC X0 (K.spec_TokenOk) (L.spec_TokenOk) 80 [V.agg [V.d (D.int IntKind.i64 t'), V.d (D.str t'1), V.d (D.int IntKind.i64 t'2)]] [] k = M.spec_TokenOk_C t' t'1 t'2 (fun r => k [[D.bool r]] []) := by kernel_rfl
theorem LC.spec_TokenOk : loops (codeOf X0.P 80) = [] := by kernel_rfl
theorem C.spec_TokenOk : H.spec_TokenOk (M.spec_TokenOk) := by
  intro t' t'1 t'2 r h
  exact fn_sound (enc := fun r => ([[D.bool r]], [])) (K := K.spec_TokenOk) (L := L.spec_TokenOk) (by kernel_rfl) (kcons_ok (P.spec_l4Plain_ok C.spec_l4Plain pnil_ok) (kcons_ok (P.spec_NumEnd_ok C.spec_NumEnd pnil_ok) (kcons_ok (P.spec_StrEnd_ok C.spec_StrEnd pnil_ok) (kcons_ok (P.spec_EreEnd_ok C.spec_EreEnd pnil_ok) (kcons_ok (P.spec_NameOk_ok C.spec_NameOk pnil_ok) (kcons_ok (P.spec_IsBuiltin_ok C.spec_IsBuiltin pnil_ok) (kcons_ok (P.spec_SpellOf_ok C.spec_SpellOf pnil_ok) knil_ok))))))) (by rw [LC.spec_TokenOk]; exact LOk.nil) (by rw [E.spec_TokenOk, M.spec_TokenOk_n] <;> rfl) h

/-! spec_l7Text -/
def H.spec_l7Text (o : Int → Int → List UInt8 → List UInt8 → List Row → Option (Bool)) : Prop := ∀ (n' : Int) (n'1 : Int) (n'2 : List UInt8) (n'3 : List UInt8) (n'4 : List Row) (r : Bool), o n' n'1 n'2 n'3 n'4 = some r → call X0 55 [V.agg [V.d (D.int IntKind.i64 n'), V.d (D.int IntKind.i64 n'1), V.d (D.str n'2), V.d (D.str n'3), V.d (D.sl false 1 n'4)]] [] = some ([[D.bool r]], [])
def P.spec_l7Text (o : Int → Int → List UInt8 → List UInt8 → List Row → Option (Bool)) (q : List V → List Cell → Res (List Row × List Cell)) (a : List V) (c : List Cell) : Res (List Row × List Cell) := match a, c with
  | [V.agg [V.d (D.int IntKind.i64 n'), V.d (D.int IntKind.i64 n'1), V.d (D.str n'2), V.d (D.str n'3), V.d (D.sl false 1 n'4)]], [] => ⟨Bool, o n' n'1 n'2 n'3 n'4, fun r => ([[D.bool r]], [])⟩
  | a, c => q a c
theorem P.spec_l7Text_ok {o : Int → Int → List UInt8 → List UInt8 → List Row → Option (Bool)} {q : List V → List Cell → Res (List Row × List Cell)} (h : H.spec_l7Text o) (hq : FnOk X0 55 q) : FnOk X0 55 (P.spec_l7Text o q) := by
  intro a c r hr
  unfold P.spec_l7Text at hr
  split at hr
  · obtain ⟨x, hx, rfl⟩ := Res.val_some hr
    exact h _ _ _ _ _ x hx
  · exact hq _ _ _ hr
noncomputable def M.spec_l7Text_C {R : Type} (n' : Int) (n'1 : Int) (n'2 : List UInt8) (n'3 : List UInt8) (n'4 : List Row) (k : Bool → Option R) : Option R :=
  bif n' == 1 then ((M.spec_NameOk n'2).bind fun r110 => (bif r110 then (k (n'3 == [])) else (k false))) else
   (bif n' == 5 then ((M.spec_NameOk n'2).bind fun r111 => (bif r111 then (k (n'3 == [])) else (k false))) else
    (bif n' == 7 then ((M.spec_NameOk n'2).bind fun r112 => (bif r112 then (k (n'3 == [])) else (k false))) else
     (bif n' == 13 then ((M.spec_NameOk n'2).bind fun r113 => (bif r113 then (k (n'3 == [])) else (k false))) else
      (bif n' == 27 then ((M.spec_NameOk n'2).bind fun r114 => (bif r114 then (k (n'3 == [])) else (k false))) else
       (bif n' == 44 then ((M.spec_NameOk n'2).bind fun r115 => (bif r115 then (k (n'3 == [])) else (k false))) else
        (bif n' == 2 then ((M.spec_TokenOk 3 n'2 0).bind fun r210 => (bif r210 then (k (n'3 == [])) else (k false))) else
         (bif n' == 3 then ((M.spec_TokenOk 4 n'2 0).bind fun r211 => (bif r211 then (k (n'3 == [])) else (k false))) else
          (bif n' == 4 then ((M.spec_TokenOk 5 n'2 0).bind fun r212 => (bif r212 then (k (n'3 == [])) else (k false))) else
           (bif n' == 34 then ((M.spec_TokenOk 2 n'2 0).bind fun r213 => (bif r213 then (k (n'3 == [])) else (k false))) else
            (bif n' == 8 then ((M.spec_IsBuiltin n'2).bind fun r214 => (bif r214 then (k (n'3 == [])) else (k false))) else
             (bif n' == 32 then
              ((M.spec_NameOk n'2).bind fun r215 => (bif r215 then ((M.spec_NameOk n'3).bind fun r216 => (k r216)) else (k false))) else
              (bif n' == 21 then
               (bif n'2 == [] then
                (bif n'3 == [] then (k true) else
                 (bif n'3 == [62] then (k true) else (bif n'3 == [62, 62] then (k true) else (k (n'3 == [124]))))) else (k false)) else (bif n'2 == [] then (k (n'3 == [])) else (k false))))))))))))))
noncomputable def M.spec_l7Text (n' : Int) (n'1 : Int) (n'2 : List UInt8) (n'3 : List UInt8) (n'4 : List Row) : Option (Bool) := M.spec_l7Text_C n' n'1 n'2 n'3 n'4 some
theorem M.spec_l7Text_n {R : Type} (n' : Int) (n'1 : Int) (n'2 : List UInt8) (n'3 : List UInt8) (n'4 : List Row) (k : Bool → Option R) : M.spec_l7Text_C n' n'1 n'2 n'3 n'4 k = (M.spec_l7Text_C n' n'1 n'2 n'3 n'4 some).bind k := by
  simp only [M.spec_l7Text_C, bif_bind, bind_bind, some_bind, none_bind, sumE_bind, optE_bind, letE_bind]
noncomputable def K.spec_l7Text : KonC := (kcons 79 (P.spec_NameOk M.spec_NameOk pnil) (kcons 80 (P.spec_TokenOk M.spec_TokenOk pnil) (kcons 81 (P.spec_IsBuiltin M.spec_IsBuiltin pnil) knil)))
noncomputable def L.spec_l7Text : LoopC := lnil
theorem E.spec_l7Text {R : Type} (n' : Int) (n'1 : Int) (n'2 : List UInt8) (n'3 : List UInt8) (n'4 : List Row) (k : List Row → List Cell → Option R) : bodyC X0 (K.spec_l7Text) (L.spec_l7Text) 55 [V.agg [V.d (D.int IntKind.i64 n'), V.d (D.int IntKind.i64 n'1), V.d (D.str n'2), V.d (D.str n'3), V.d (D.sl false 1 n'4)]] [] k = M.spec_l7Text_C n' n'1 n'2 n'3 n'4 (fun r => k [[D.bool r]] []) := by kernel_rfl
theorem LC.spec_l7Text : loops (codeOf X0.P 55) = [] := by kernel_rfl
theorem C.spec_l7Text : H.spec_l7Text (M.spec_l7Text) := by
  intro n' n'1 n'2 n'3 n'4 r h
  exact fn_sound (enc := fun r => ([[D.bool r]], [])) (K := K.spec_l7Text) (L := L.spec_l7Text) (by kernel_rfl) (kcons_ok (P.spec_NameOk_ok C.spec_NameOk pnil_ok) (kcons_ok (P.spec_TokenOk_ok C.spec_TokenOk pnil_ok) (kcons_ok (P.spec_IsBuiltin_ok C.spec_IsBuiltin pnil_ok) knil_ok))) (by rw [LC.spec_l7Text]; exact LOk.nil) (by rw [E.spec_l7Text, M.spec_l7Text_n] <;> rfl) h

/-! spec_FieldsOk -/
def H.spec_FieldsOk (o : Int → Int → List UInt8 → List UInt8 → List Row → Option (Bool)) : Prop := ∀ (n' : Int) (n'1 : Int) (n'2 : List UInt8) (n'3 : List UInt8) (n'4 : List Row) (r : Bool), o n' n'1 n'2 n'3 n'4 = some r → call X0 38 [V.agg [V.d (D.int IntKind.i64 n'), V.d (D.int IntKind.i64 n'1), V.d (D.str n'2), V.d (D.str n'3), V.d (D.sl false 1 n'4)]] [] = some ([[D.bool r]], [])
def P.spec_FieldsOk (o : Int → Int → List UInt8 → List UInt8 → List Row → Option (Bool)) (q : List V → List Cell → Res (List Row × List Cell)) (a : List V) (c : List Cell) : Res (List Row × List Cell) := match a, c with
  | [V.agg [V.d (D.int IntKind.i64 n'), V.d (D.int IntKind.i64 n'1), V.d (D.str n'2), V.d (D.str n'3), V.d (D.sl false 1 n'4)]], [] => ⟨Bool, o n' n'1 n'2 n'3 n'4, fun r => ([[D.bool r]], [])⟩
  | a, c => q a c
theorem P.spec_FieldsOk_ok {o : Int → Int → List UInt8 → List UInt8 → List Row → Option (Bool)} {q : List V → List Cell → Res (List Row × List Cell)} (h : H.spec_FieldsOk o) (hq : FnOk X0 38 q) : FnOk X0 38 (P.spec_FieldsOk o q) := by
  intro a c r hr
  unfold P.spec_FieldsOk at hr
  split at hr
  · obtain ⟨x, hx, rfl⟩ := Res.val_some hr
    exact h _ _ _ _ _ x hx
  · exact hq _ _ _ hr
noncomputable def M.spec_FieldsOk_C {R : Type} (n' : Int) (n'1 : Int) (n'2 : List UInt8) (n'3 : List UInt8) (n'4 : List Row) (k : Bool → Option R) : Option R :=
  (M.spec_l7Many n' n'1 n'2 n'3 n'4).bind fun r75 =>
   ((M.spec_l1In n' 1 16).bind fun r76 =>
    (bif r76 then
     ((M.spec_l7Op n' n'1 n'2 n'3 n'4).bind fun r82 =>
      (bif r82 then
       ((M.spec_l7Text n' n'1 n'2 n'3 n'4).bind fun r217 =>
        (bif r217 then ((M.spec_l1In ((↑n'4.length : Int)) r75.fst r75.snd).bind fun r218 => (k r218)) else (k false))) else (k false))) else
     ((M.spec_l1In n' 20 34).bind fun r219 =>
      (bif r219 then
       ((M.spec_l7Op n' n'1 n'2 n'3 n'4).bind fun r220 =>
        (bif r220 then
         ((M.spec_l7Text n' n'1 n'2 n'3 n'4).bind fun r221 =>
          (bif r221 then ((M.spec_l1In ((↑n'4.length : Int)) r75.fst r75.snd).bind fun r222 => (k r222)) else (k false))) else (k false))) else
       ((M.spec_l1In n' 40 45).bind fun r223 =>
        (bif r223 then
         ((M.spec_l7Op n' n'1 n'2 n'3 n'4).bind fun r224 =>
          (bif r224 then
           ((M.spec_l7Text n' n'1 n'2 n'3 n'4).bind fun r225 =>
            (bif r225 then ((M.spec_l1In ((↑n'4.length : Int)) r75.fst r75.snd).bind fun r226 => (k r226)) else (k false))) else (k false))) else (k false)))))))
noncomputable def M.spec_FieldsOk (n' : Int) (n'1 : Int) (n'2 : List UInt8) (n'3 : List UInt8) (n'4 : List Row) : Option (Bool) := M.spec_FieldsOk_C n' n'1 n'2 n'3 n'4 some
theorem M.spec_FieldsOk_n {R : Type} (n' : Int) (n'1 : Int) (n'2 : List UInt8) (n'3 : List UInt8) (n'4 : List Row) (k : Bool → Option R) : M.spec_FieldsOk_C n' n'1 n'2 n'3 n'4 k = (M.spec_FieldsOk_C n' n'1 n'2 n'3 n'4 some).bind k := by
  simp only [M.spec_FieldsOk_C, bif_bind, bind_bind, some_bind, none_bind, sumE_bind, optE_bind, letE_bind]
noncomputable def K.spec_FieldsOk : KonC := (kcons 53 (P.spec_l7Many M.spec_l7Many pnil) (kcons 51 (P.spec_l1In M.spec_l1In pnil) (kcons 54 (P.spec_l7Op M.spec_l7Op pnil) (kcons 55 (P.spec_l7Text M.spec_l7Text pnil) knil))))
noncomputable def L.spec_FieldsOk : LoopC := lnil
theorem E.spec_FieldsOk {R : Type} (n' : Int) (n'1 : Int) (n'2 : List UInt8) (n'3 : List UInt8) (n'4 : List Row) (k : List Row → List Cell → Option R) : bodyC X0 (K.spec_FieldsOk) (L.spec_FieldsOk) 38 [V.agg [V.d (D.int IntKind.i64 n'), V.d (D.int IntKind.i64 n'1), V.d (D.str n'2), V.d (D.str n'3), V.d (D.sl false 1 n'4)]] [] k = M.spec_FieldsOk_C n' n'1 n'2 n'3 n'4 (fun r => k [[D.bool r]] []) := by kernel_rfl
theorem LC.spec_FieldsOk : loops (codeOf X0.P 38) = [] := by kernel_rfl
theorem C.spec_FieldsOk : H.spec_FieldsOk (M.spec_FieldsOk) := by
  intro n' n'1 n'2 n'3 n'4 r h
  exact fn_sound (enc := fun r => ([[D.bool r]], [])) (K := K.spec_FieldsOk) (L := L.spec_FieldsOk) (by kernel_rfl) (kcons_ok (P.spec_l7Many_ok C.spec_l7Many pnil_ok) (kcons_ok (P.spec_l1In_ok C.spec_l1In pnil_ok) (kcons_ok (P.spec_l7Op_ok C.spec_l7Op pnil_ok) (kcons_ok (P.spec_l7Text_ok C.spec_l7Text pnil_ok) knil_ok)))) (by rw [LC.spec_FieldsOk]; exact LOk.nil) (by rw [E.spec_FieldsOk, M.spec_FieldsOk_n] <;> rfl) h

/-! spec_IsLvalue -/
def H.spec_IsLvalue (o : Int → Option (Bool)) : Prop := ∀ (kind : Int) (r : Bool), o kind = some r → call X0 56 [V.d (D.int IntKind.i64 kind)] [] = some ([[D.bool r]], [])
def P.spec_IsLvalue (o : Int → Option (Bool)) (q : List V → List Cell → Res (List Row × List Cell)) (a : List V) (c : List Cell) : Res (List Row × List Cell) := match a, c with
  | [V.d (D.int IntKind.i64 kind)], [] => ⟨Bool, o kind, fun r => ([[D.bool r]], [])⟩
  | a, c => q a c
theorem P.spec_IsLvalue_ok {o : Int → Option (Bool)} {q : List V → List Cell → Res (List Row × List Cell)} (h : H.spec_IsLvalue o) (hq : FnOk X0 56 q) : FnOk X0 56 (P.spec_IsLvalue o q) := by
  intro a c r hr
  unfold P.spec_IsLvalue at hr
  split at hr
  · obtain ⟨x, hx, rfl⟩ := Res.val_some hr
    exact h _ x hx
  · exact hq _ _ _ hr
noncomputable def M.spec_IsLvalue_C {R : Type} (kind : Int) (k : Bool → Option R) : Option R :=
  bif kind == 1 then (k true) else (bif kind == 5 then (k true) else (k (kind == 6)))
noncomputable def M.spec_IsLvalue (kind : Int) : Option (Bool) := M.spec_IsLvalue_C kind some
theorem M.spec_IsLvalue_n {R : Type} (kind : Int) (k : Bool → Option R) : M.spec_IsLvalue_C kind k = (M.spec_IsLvalue_C kind some).bind k := by
  simp only [M.spec_IsLvalue_C, bif_bind, bind_bind, some_bind, none_bind, sumE_bind, optE_bind, letE_bind]
noncomputable def K.spec_IsLvalue : KonC := knil
noncomputable def L.spec_IsLvalue : LoopC := lnil
theorem E.spec_IsLvalue {R : Type} (kind : Int) (k : List Row → List Cell → Option R) : bodyC X0 (K.spec_IsLvalue) (L.spec_IsLvalue) 56 [V.d (D.int IntKind.i64 kind)] [] k = M.spec_IsLvalue_C kind (fun r => k [[D.bool r]] []) := by kernel_rfl
theorem LC.spec_IsLvalue : loops (codeOf X0.P 56) = [] := by kernel_rfl
theorem C.spec_IsLvalue : H.spec_IsLvalue (M.spec_IsLvalue) := by
  intro kind r h
  exact fn_sound (enc := fun r => ([[D.bool r]], [])) (K := K.spec_IsLvalue) (L := L.spec_IsLvalue) (by kernel_rfl) knil_ok (by rw [LC.spec_IsLvalue]; exact LOk.nil) (by rw [E.spec_IsLvalue, M.spec_IsLvalue_n] <;> rfl) h

/-! spec_IsExpr -/
def H.spec_IsExpr (o : Int → Option (Bool)) : Prop := ∀ (kind : Int) (r : Bool), o kind = some r → call X0 57 [V.d (D.int IntKind.i64 kind)] [] = some ([[D.bool r]], [])
def P.spec_IsExpr (o : Int → Option (Bool)) (q : List V → List Cell → Res (List Row × List Cell)) (a : List V) (c : List Cell) : Res (List Row × List Cell) := match a, c with
  | [V.d (D.int IntKind.i64 kind)], [] => ⟨Bool, o kind, fun r => ([[D.bool r]], [])⟩
  | a, c => q a c
theorem P.spec_IsExpr_ok {o : Int → Option (Bool)} {q : List V → List Cell → Res (List Row × List Cell)} (h : H.spec_IsExpr o) (hq : FnOk X0 57 q) : FnOk X0 57 (P.spec_IsExpr o q) := by
  intro a c r hr
  unfold P.spec_IsExpr at hr
  split at hr
  · obtain ⟨x, hx, rfl⟩ := Res.val_some hr
    exact h _ x hx
  · exact hq _ _ _ hr
noncomputable def M.spec_IsExpr_C {R : Type} (kind : Int) (k : Bool → Option R) : Option R :=
  (M.spec_l1In kind 1 15).bind fun r244 => (k r244)
noncomputable def M.spec_IsExpr (kind : Int) : Option (Bool) := M.spec_IsExpr_C kind some
theorem M.spec_IsExpr_n {R : Type} (kind : Int) (k : Bool → Option R) : M.spec_IsExpr_C kind k = (M.spec_IsExpr_C kind some).bind k := by
  simp only [M.spec_IsExpr_C, bif_bind, bind_bind, some_bind, none_bind, sumE_bind, optE_bind, letE_bind]
noncomputable def K.spec_IsExpr : KonC := (kcons 51 (P.spec_l1In M.spec_l1In pnil) knil)
noncomputable def L.spec_IsExpr : LoopC := lnil
theorem E.spec_IsExpr {R : Type} (kind : Int) (k : List Row → List Cell → Option R) : bodyC X0 (K.spec_IsExpr) (L.spec_IsExpr) 57 [V.d (D.int IntKind.i64 kind)] [] k = M.spec_IsExpr_C kind (fun r => k [[D.bool r]] []) := by kernel_rfl
theorem LC.spec_IsExpr : loops (codeOf X0.P 57) = [] := by kernel_rfl
theorem C.spec_IsExpr : H.spec_IsExpr (M.spec_IsExpr) := by
  intro kind r h
  exact fn_sound (enc := fun r => ([[D.bool r]], [])) (K := K.spec_IsExpr) (L := L.spec_IsExpr) (by kernel_rfl) (kcons_ok (P.spec_l1In_ok C.spec_l1In pnil_ok) knil_ok) (by rw [LC.spec_IsExpr]; exact LOk.nil) (by rw [E.spec_IsExpr, M.spec_IsExpr_n] <;> rfl) h

/-! spec_IsStmt -/
def H.spec_IsStmt (o : Int → Option (Bool)) : Prop := ∀ (kind : Int) (r : Bool), o kind = some r → call X0 58 [V.d (D.int IntKind.i64 kind)] [] = some ([[D.bool r]], [])
def P.spec_IsStmt (o : Int → Option (Bool)) (q : List V → List Cell → Res (List Row × List Cell)) (a : List V) (c : List Cell) : Res (List Row × List Cell) := match a, c with
  | [V.d (D.int IntKind.i64 kind)], [] => ⟨Bool, o kind, fun r => ([[D.bool r]], [])⟩
  | a, c => q a c
theorem P.spec_IsStmt_ok {o : Int → Option (Bool)} {q : List V → List Cell → Res (List Row × List Cell)} (h : H.spec_IsStmt o) (hq : FnOk X0 58 q) : FnOk X0 58 (P.spec_IsStmt o q) := by
  intro a c r hr
  unfold P.spec_IsStmt at hr
  split at hr
  · obtain ⟨x, hx, rfl⟩ := Res.val_some hr
    exact h _ x hx
  · exact hq _ _ _ hr
noncomputable def M.spec_IsStmt_C {R : Type} (kind : Int) (k : Bool → Option R) : Option R :=
  (M.spec_l1In kind 20 34).bind fun r252 => (k r252)
noncomputable def M.spec_IsStmt (kind : Int) : Option (Bool) := M.spec_IsStmt_C kind some
theorem M.spec_IsStmt_n {R : Type} (kind : Int) (k : Bool → Option R) : M.spec_IsStmt_C kind k = (M.spec_IsStmt_C kind some).bind k := by
  simp only [M.spec_IsStmt_C, bif_bind, bind_bind, some_bind, none_bind, sumE_bind, optE_bind, letE_bind]
noncomputable def K.spec_IsStmt : KonC := (kcons 51 (P.spec_l1In M.spec_l1In pnil) knil)
noncomputable def L.spec_IsStmt : LoopC := lnil
theorem E.spec_IsStmt {R : Type} (kind : Int) (k : List Row → List Cell → Option R) : bodyC X0 (K.spec_IsStmt) (L.spec_IsStmt) 58 [V.d (D.int IntKind.i64 kind)] [] k = M.spec_IsStmt_C kind (fun r => k [[D.bool r]] []) := by kernel_rfl
theorem LC.spec_IsStmt : loops (codeOf X0.P 58) = [] := by kernel_rfl
theorem C.spec_IsStmt : H.spec_IsStmt (M.spec_IsStmt) := by
  intro kind r h
  exact fn_sound (enc := fun r => ([[D.bool r]], [])) (K := K.spec_IsStmt) (L := L.spec_IsStmt) (by kernel_rfl) (kcons_ok (P.spec_l1In_ok C.spec_l1In pnil_ok) knil_ok) (by rw [LC.spec_IsStmt]; exact LOk.nil) (by rw [E.spec_IsStmt, M.spec_IsStmt_n] <;> rfl) h

/-! spec_l7Kid -/
def H.spec_l7Kid (o : Int → Int → List UInt8 → List UInt8 → List Row → Int → Int → Option (Bool)) : Prop := ∀ (n' : Int) (n'1 : Int) (n'2 : List UInt8) (n'3 : List UInt8) (n'4 : List Row) (k' : Int) (kind : Int) (r : Bool), o n' n'1 n'2 n'3 n'4 k' kind = some r → call X0 39 [V.agg [V.d (D.int IntKind.i64 n'), V.d (D.int IntKind.i64 n'1), V.d (D.str n'2), V.d (D.str n'3), V.d (D.sl false 1 n'4)], V.d (D.int IntKind.i64 k'), V.d (D.int IntKind.i64 kind)] [] = some ([[D.bool r]], [])
def P.spec_l7Kid (o : Int → Int → List UInt8 → List UInt8 → List Row → Int → Int → Option (Bool)) (q : List V → List Cell → Res (List Row × List Cell)) (a : List V) (c : List Cell) : Res (List Row × List Cell) := match a, c with
  | [V.agg [V.d (D.int IntKind.i64 n'), V.d (D.int IntKind.i64 n'1), V.d (D.str n'2), V.d (D.str n'3), V.d (D.sl false 1 n'4)], V.d (D.int IntKind.i64 k'), V.d (D.int IntKind.i64 kind)], [] => ⟨Bool, o n' n'1 n'2 n'3 n'4 k' kind, fun r => ([[D.bool r]], [])⟩
  | a, c => q a c
theorem P.spec_l7Kid_ok {o : Int → Int → List UInt8 → List UInt8 → List Row → Int → Int → Option (Bool)} {q : List V → List Cell → Res (List Row × List Cell)} (h : H.spec_l7Kid o) (hq : FnOk X0 39 q) : FnOk X0 39 (P.spec_l7Kid o q) := by
  intro a c r hr
  unfold P.spec_l7Kid at hr
  split at hr
  · obtain ⟨x, hx, rfl⟩ := Res.val_some hr
    exact h _ _ _ _ _ _ _ x hx
  · exact hq _ _ _ hr
noncomputable def M.spec_l7Kid_C {R : Type} (n' : Int) (n'1 : Int) (n'2 : List UInt8) (n'3 : List UInt8) (n'4 : List Row) (k' : Int) (kind : Int) (k : Bool → Option R) : Option R :=
  bif n' == 9 then ((M.spec_IsLvalue kind).bind fun r242 => (k r242)) else
   (bif n' == 10 then ((M.spec_IsLvalue kind).bind fun r243 => (k r243)) else
    (bif n' == 15 then
     ((M.spec_IsExpr kind).bind fun r245 =>
      (bif r245 then (bif decide (k' > 0) then (k true) else ((M.spec_IsLvalue kind).bind fun r246 => (k r246))) else (k false))) else
     (bif n' == 28 then
      (bif k' == 0 then
       ((M.spec_IsExpr kind).bind fun r247 => (bif r247 then (k true) else (bif decide (k' > 0) then (k (kind == 33)) else (k false)))) else (bif decide (k' > 0) then (k (kind == 33)) else (k false))) else
      (bif n' == 29 then
       (bif k' == 0 then
        ((M.spec_IsExpr kind).bind fun r248 => (bif r248 then (k true) else (bif k' == 1 then (k (kind == 33)) else (k false)))) else (bif k' == 1 then (k (kind == 33)) else (k false))) else
       (bif n' == 30 then
        (bif k' == 0 then
         (bif kind == 33 then (k true) else (bif k' == 1 then ((M.spec_IsExpr kind).bind fun r249 => (k r249)) else (k false))) else (bif k' == 1 then ((M.spec_IsExpr kind).bind fun r250 => (k r250)) else (k false))) else
        (bif n' == 31 then
         (bif decide (k' < 3) then
          ((M.spec_IsExpr kind).bind fun r251 =>
           (bif r251 then (k true) else (bif kind == 16 then (k true) else (bif k' == 3 then (k (kind == 33)) else (k false))))) else (bif k' == 3 then (k (kind == 33)) else (k false))) else
         (bif n' == 32 then (k (kind == 33)) else
          (bif n' == 40 then (k (kind == 33)) else
           (bif n' == 41 then (k (kind == 33)) else
            (bif n' == 33 then ((M.spec_IsStmt kind).bind fun r253 => (k r253)) else
             (bif n' == 42 then
              (bif n'1 == 1 then
               ((M.spec_IsExpr kind).bind fun r254 =>
                (bif r254 then (k true) else
                 (bif n'1 == 2 then
                  (bif kind == 33 then (k true) else
                   (bif n'1 == 3 then
                    (bif k' == IntKind.i64.wrap ((↑n'4.length : Int) - 1) then
                     (bif kind == 33 then (k true) else
                      (bif !k' == IntKind.i64.wrap ((↑n'4.length : Int) - 1) then ((M.spec_IsExpr kind).bind fun r255 => (k r255)) else (k false))) else
                     (bif !k' == IntKind.i64.wrap ((↑n'4.length : Int) - 1) then ((M.spec_IsExpr kind).bind fun r256 => (k r256)) else (k false))) else (k false))) else
                  (bif n'1 == 3 then
                   (bif k' == IntKind.i64.wrap ((↑n'4.length : Int) - 1) then
                    (bif kind == 33 then (k true) else
                     (bif !k' == IntKind.i64.wrap ((↑n'4.length : Int) - 1) then ((M.spec_IsExpr kind).bind fun r257 => (k r257)) else (k false))) else
                    (bif !k' == IntKind.i64.wrap ((↑n'4.length : Int) - 1) then ((M.spec_IsExpr kind).bind fun r258 => (k r258)) else (k false))) else (k false))))) else
               (bif n'1 == 2 then
                (bif kind == 33 then (k true) else
                 (bif n'1 == 3 then
                  (bif k' == IntKind.i64.wrap ((↑n'4.length : Int) - 1) then
                   (bif kind == 33 then (k true) else
                    (bif !k' == IntKind.i64.wrap ((↑n'4.length : Int) - 1) then ((M.spec_IsExpr kind).bind fun r259 => (k r259)) else (k false))) else
                   (bif !k' == IntKind.i64.wrap ((↑n'4.length : Int) - 1) then ((M.spec_IsExpr kind).bind fun r260 => (k r260)) else (k false))) else (k false))) else
                (bif n'1 == 3 then
                 (bif k' == IntKind.i64.wrap ((↑n'4.length : Int) - 1) then
                  (bif kind == 33 then (k true) else
                   (bif !k' == IntKind.i64.wrap ((↑n'4.length : Int) - 1) then ((M.spec_IsExpr kind).bind fun r261 => (k r261)) else (k false))) else
                  (bif !k' == IntKind.i64.wrap ((↑n'4.length : Int) - 1) then ((M.spec_IsExpr kind).bind fun r262 => (k r262)) else (k false))) else (k false)))) else
              (bif n' == 43 then
               (bif decide (k' < 2) then
                ((M.spec_IsExpr kind).bind fun r263 => (bif r263 then (k true) else (bif k' == 2 then (k (kind == 33)) else (k false)))) else (bif k' == 2 then (k (kind == 33)) else (k false))) else
               (bif n' == 44 then
                (bif k' == IntKind.i64.wrap ((↑n'4.length : Int) - 1) then
                 (bif kind == 33 then (k true) else (bif !k' == IntKind.i64.wrap ((↑n'4.length : Int) - 1) then (k (kind == 1)) else (k false))) else (bif !k' == IntKind.i64.wrap ((↑n'4.length : Int) - 1) then (k (kind == 1)) else (k false))) else
                (bif n' == 45 then ((M.spec_l1In kind 40 44).bind fun r264 => (bif r264 then (k true) else (k (kind == 34)))) else ((M.spec_IsExpr kind).bind fun r265 => (k r265))))))))))))))))
noncomputable def M.spec_l7Kid (n' : Int) (n'1 : Int) (n'2 : List UInt8) (n'3 : List UInt8) (n'4 : List Row) (k' : Int) (kind : Int) : Option (Bool) := M.spec_l7Kid_C n' n'1 n'2 n'3 n'4 k' kind some
theorem M.spec_l7Kid_n {R : Type} (n' : Int) (n'1 : Int) (n'2 : List UInt8) (n'3 : List UInt8) (n'4 : List Row) (k' : Int) (kind : Int) (k : Bool → Option R) : M.spec_l7Kid_C n' n'1 n'2 n'3 n'4 k' kind k = (M.spec_l7Kid_C n' n'1 n'2 n'3 n'4 k' kind some).bind k := by
  simp only [M.spec_l7Kid_C, bif_bind, bind_bind, some_bind, none_bind, sumE_bind, optE_bind, letE_bind]
noncomputable def K.spec_l7Kid : KonC := (kcons 56 (P.spec_IsLvalue M.spec_IsLvalue pnil) (kcons 57 (P.spec_IsExpr M.spec_IsExpr pnil) (kcons 58 (P.spec_IsStmt M.spec_IsStmt pnil) (kcons 51 (P.spec_l1In M.spec_l1In pnil) knil))))
noncomputable def L.spec_l7Kid : LoopC := lnil
theorem E.spec_l7Kid {R : Type} (n' : Int) (n'1 : Int) (n'2 : List UInt8) (n'3 : List UInt8) (n'4 : List Row) (k' : Int) (kind : Int) (k : List Row → List Cell → Option R) : bodyC X0 (K.spec_l7Kid) (L.spec_l7Kid) 39 [V.agg [V.d (D.int IntKind.i64 n'), V.d (D.int IntKind.i64 n'1), V.d (D.str n'2), V.d (D.str n'3), V.d (D.sl false 1 n'4)], V.d (D.int IntKind.i64 k'), V.d (D.int IntKind.i64 kind)] [] k = M.spec_l7Kid_C n' n'1 n'2 n'3 n'4 k' kind (fun r => k [[D.bool r]] []) := by kernel_rfl
theorem LC.spec_l7Kid : loops (codeOf X0.P 39) = [] := by kernel_rfl
theorem C.spec_l7Kid : H.spec_l7Kid (M.spec_l7Kid) := by
  intro n' n'1 n'2 n'3 n'4 k' kind r h
  exact fn_sound (enc := fun r => ([[D.bool r]], [])) (K := K.spec_l7Kid) (L := L.spec_l7Kid) (by kernel_rfl) (kcons_ok (P.spec_IsLvalue_ok C.spec_IsLvalue pnil_ok) (kcons_ok (P.spec_IsExpr_ok C.spec_IsExpr pnil_ok) (kcons_ok (P.spec_IsStmt_ok C.spec_IsStmt pnil_ok) (kcons_ok (P.spec_l1In_ok C.spec_l1In pnil_ok) knil_ok)))) (by rw [LC.spec_l7Kid]; exact LOk.nil) (by rw [E.spec_l7Kid, M.spec_l7Kid_n] <;> rfl) h

/-! spec_TreeOk -/
def H.spec_TreeOk (o : List Row → Option (Bool)) : Prop := ∀ (l : List Row) (r : Bool), o l = some r → call X0 28 [V.d (D.sl false 5 l)] [] = some ([[D.bool r]], [])
def P.spec_TreeOk (o : List Row → Option (Bool)) (q : List V → List Cell → Res (List Row × List Cell)) (a : List V) (c : List Cell) : Res (List Row × List Cell) := match a, c with
  | [V.d (D.sl false 5 l)], [] => ⟨Bool, o l, fun r => ([[D.bool r]], [])⟩
  | a, c => q a c
theorem P.spec_TreeOk_ok {o : List Row → Option (Bool)} {q : List V → List Cell → Res (List Row × List Cell)} (h : H.spec_TreeOk o) (hq : FnOk X0 28 q) : FnOk X0 28 (P.spec_TreeOk o q) := by
  intro a c r hr
  unfold P.spec_TreeOk at hr
  split at hr
  · obtain ⟨x, hx, rfl⟩ := Res.val_some hr
    exact h _ x hx
  · exact hq _ _ _ hr
noncomputable def M.spec_TreeOk_l9_C {R : Type} (l : List Row) (i : Int) (s : Int) (kn : Int → Option R) (ke : (Unit) ⊕ (Int) → Option R) : Option R := match s with
  | k' =>
    (idx l i).bind fun row228 =>
     ((cSl 1 row228 4).bind fun rows229 =>
      (bif decide (k' < (↑rows229.length : Int)) then
       ((idx l i).bind fun row230 =>
        ((cInt IntKind.i64 row230 0).bind fun n231 =>
         ((cInt IntKind.i64 row230 1).bind fun n232 =>
          ((cStr row230 2).bind fun s233 =>
           ((cStr row230 3).bind fun s234 =>
            ((cSl 1 row230 4).bind fun rows235 =>
             ((idx l i).bind fun row236 =>
              ((cSl 1 row236 4).bind fun rows237 =>
               ((idx rows237 k').bind fun row238 =>
                ((cInt IntKind.i64 row238 0).bind fun n239 =>
                 ((idx l n239).bind fun row240 =>
                  ((cInt IntKind.i64 row240 0).bind fun n241 =>
                   ((M.spec_l7Kid n231 n232 s233 s234 rows235 k' n241).bind fun r266 => (bif !r266 then (ke (.inl ())) else (kn (IntKind.i64.wrap (k' + 1))))))))))))))))) else (ke (.inr k'))))
noncomputable def M.spec_TreeOk_l9_b (l : List Row) (i : Int) (s : Int) : Option ((Int) ⊕ ((Unit) ⊕ (Int))) := M.spec_TreeOk_l9_C l i s (fun s => some (.inl s)) (fun t => some (.inr t))
noncomputable def M.spec_TreeOk_l9 (l : List Row) (i : Int) (s : Int) : Option ((Unit) ⊕ (Int)) := loopM (M.spec_TreeOk_l9_b l i) s
theorem M.spec_TreeOk_l9_n {R : Type} (l : List Row) (i : Int) (s : Int) (kn : Int → Option R) (ke : (Unit) ⊕ (Int) → Option R) : M.spec_TreeOk_l9_C l i s kn ke = (M.spec_TreeOk_l9_b l i s).bind fun r => match r with | .inl s => kn s | .inr t => ke t := by
  skip
  all_goals
    simp only [M.spec_TreeOk_l9_b, M.spec_TreeOk_l9_C, bif_bind, bind_bind, some_bind, none_bind, sumE_bind, optE_bind, letE_bind]
def A.spec_TreeOk_l9 (l : List Row) (i : Int) : Alt (Ex × St) := .sum (.leaf (Unit) (fun t => (Ex.ret, { tm := [(2, V.d (D.bool false))], mem := [] }))) (.leaf (Int) (fun t => (Ex.exit 2, { tm := [(0, V.d (D.sl false 5 l)), (3, V.d (D.int IntKind.i64 i)), (4, V.d (D.int IntKind.i64 t)), (32, V.d (D.bool false))], mem := [] })))
def T.spec_TreeOk_l9 (l : List Row) (i : Int) (s : Int) : St := match s with
  | k' => { tm := [(0, V.d (D.sl false 5 l)), (3, V.d (D.int IntKind.i64 i)), (4, V.d (D.int IntKind.i64 k'))], mem := [] }
noncomputable def K.spec_TreeOk_l9 : KonC := (kcons 39 (P.spec_l7Kid M.spec_l7Kid pnil) knil)
noncomputable def L.spec_TreeOk_l9 : LoopC := lnil
theorem E.spec_TreeOk_l9 {R : Type} (l : List Row) (i : Int) (s : Int) (k : Ex → St → Option R) : denC X0 (K.spec_TreeOk_l9) (L.spec_TreeOk_l9) 28 (loopCode X0.P 28 9) (T.spec_TreeOk_l9 l i s) k = M.spec_TreeOk_l9_C l i s (fun s => k .normal (T.spec_TreeOk_l9 l i s)) (fun t => (A.spec_TreeOk_l9 l i).go t fun r => k r.1 r.2) := by
  skip
  all_goals kernel_rfl
theorem LC.spec_TreeOk_l9 : loops (loopCode X0.P 28 9) = [] := by kernel_rfl
noncomputable def PL.spec_TreeOk_l9 (S : St) : ResA (Ex × St) := match S with
  | { tm := [(0, V.d (D.sl false 5 l)), (3, V.d (D.int IntKind.i64 i)), (4, V.d (D.int IntKind.i64 k'))], mem := [] } => ⟨A.spec_TreeOk_l9 l i, M.spec_TreeOk_l9 l i k'⟩
  | _ => .none
theorem C.spec_TreeOk_l9 : LpOk X0 28 9 (loopCode X0.P 28 9) (PL.spec_TreeOk_l9) := by
  refine ⟨by kernel_rfl, fun S r hr => ?_⟩
  unfold PL.spec_TreeOk_l9 at hr
  split at hr
  · obtain ⟨x, hx, rfl⟩ := ResA.val_some hr
    exact lp_sound (K := K.spec_TreeOk_l9) (L := L.spec_TreeOk_l9) (b := M.spec_TreeOk_l9_b _ _) (tm := T.spec_TreeOk_l9 _ _) (tx := (A.spec_TreeOk_l9 _ _).enc) (kcons_ok (P.spec_l7Kid_ok C.spec_l7Kid pnil_ok) knil_ok) (by rw [LC.spec_TreeOk_l9]; exact LOk.nil) (fun s => by rw [E.spec_TreeOk_l9, M.spec_TreeOk_l9_n]; congr 1; funext r; cases r <;> first | rfl | exact Alt.go_eq _ _ _) (by intro t; rcases t with t | t <;> first | (intro h; cases h) | (intro h; cases h)) hx (s := _)
  · cases hr
noncomputable def M.spec_TreeOk_l4_C {R : Type} (l : List Row) (s : Int) (kn : Int → Option R) (ke : (Unit) ⊕ (Int) → Option R) : Option R := match s with
  | i =>
    bif decide (i < (↑l.length : Int)) then
     ((idx l i).bind fun row69 =>
      ((cInt IntKind.i64 row69 0).bind fun n70 =>
       ((cInt IntKind.i64 row69 1).bind fun n71 =>
        ((cStr row69 2).bind fun s72 =>
         ((cStr row69 3).bind fun s73 =>
          ((cSl 1 row69 4).bind fun rows74 =>
           ((M.spec_FieldsOk n70 n71 s72 s73 rows74).bind fun r227 =>
            (bif !r227 then (ke (.inl ())) else
             ((M.spec_TreeOk_l9 l i 0).bind fun u271 =>
             sumE u271 (fun t267 => (ke (.inl ()))) fun u272 =>
              letE u272 fun t268 => (kn (IntKind.i64.wrap (i + 1)))))))))))) else (ke (.inr i))
noncomputable def M.spec_TreeOk_l4_b (l : List Row) (s : Int) : Option ((Int) ⊕ ((Unit) ⊕ (Int))) := M.spec_TreeOk_l4_C l s (fun s => some (.inl s)) (fun t => some (.inr t))
noncomputable def M.spec_TreeOk_l4 (l : List Row) (s : Int) : Option ((Unit) ⊕ (Int)) := loopM (M.spec_TreeOk_l4_b l) s
theorem M.spec_TreeOk_l4_n {R : Type} (l : List Row) (s : Int) (kn : Int → Option R) (ke : (Unit) ⊕ (Int) → Option R) : M.spec_TreeOk_l4_C l s kn ke = (M.spec_TreeOk_l4_b l s).bind fun r => match r with | .inl s => kn s | .inr t => ke t := by
  skip
  all_goals
    simp only [M.spec_TreeOk_l4_b, M.spec_TreeOk_l4_C, bif_bind, bind_bind, some_bind, none_bind, sumE_bind, optE_bind, letE_bind]
def A.spec_TreeOk_l4 (l : List Row) : Alt (Ex × St) := .sum (.leaf (Unit) (fun t => (Ex.ret, { tm := [(2, V.d (D.bool false))], mem := [] }))) (.leaf (Int) (fun t => (Ex.exit 0, { tm := [(0, V.d (D.sl false 5 l)), (3, V.d (D.int IntKind.i64 t)), (16, V.d (D.bool false))], mem := [] })))
def T.spec_TreeOk_l4 (l : List Row) (s : Int) : St := match s with
  | i => { tm := [(0, V.d (D.sl false 5 l)), (3, V.d (D.int IntKind.i64 i))], mem := [] }
noncomputable def K.spec_TreeOk_l4 : KonC := (kcons 38 (P.spec_FieldsOk M.spec_FieldsOk pnil) knil)
noncomputable def L.spec_TreeOk_l4 : LoopC := (lcons 9 (PL.spec_TreeOk_l9) lnil)
theorem E.spec_TreeOk_l4 {R : Type} (l : List Row) (s : Int) (k : Ex → St → Option R) : denC X0 (K.spec_TreeOk_l4) (L.spec_TreeOk_l4) 28 (loopCode X0.P 28 4) (T.spec_TreeOk_l4 l s) k = M.spec_TreeOk_l4_C l s (fun s => k .normal (T.spec_TreeOk_l4 l s)) (fun t => (A.spec_TreeOk_l4 l).go t fun r => k r.1 r.2) := by
  skip
  all_goals kernel_rfl
theorem LC.spec_TreeOk_l4 : loops (loopCode X0.P 28 4) = [loopCode X0.P 28 9] := by kernel_rfl
noncomputable def PL.spec_TreeOk_l4 (S : St) : ResA (Ex × St) := match S with
  | { tm := [(0, V.d (D.sl false 5 l)), (3, V.d (D.int IntKind.i64 i))], mem := [] } => ⟨A.spec_TreeOk_l4 l, M.spec_TreeOk_l4 l i⟩
  | _ => .none
theorem C.spec_TreeOk_l4 : LpOk X0 28 4 (loopCode X0.P 28 4) (PL.spec_TreeOk_l4) := by
  refine ⟨by kernel_rfl, fun S r hr => ?_⟩
  unfold PL.spec_TreeOk_l4 at hr
  split at hr
  · obtain ⟨x, hx, rfl⟩ := ResA.val_some hr
    exact lp_sound (K := K.spec_TreeOk_l4) (L := L.spec_TreeOk_l4) (b := M.spec_TreeOk_l4_b _) (tm := T.spec_TreeOk_l4 _) (tx := (A.spec_TreeOk_l4 _).enc) (kcons_ok (P.spec_FieldsOk_ok C.spec_FieldsOk pnil_ok) knil_ok) (by rw [LC.spec_TreeOk_l4]; exact (LOk.cons (LpOk.at (C.spec_TreeOk_l9) (fun _ => rfl)) LOk.nil)) (fun s => by rw [E.spec_TreeOk_l4, M.spec_TreeOk_l4_n]; congr 1; funext r; cases r <;> first | rfl | exact Alt.go_eq _ _ _) (by intro t; rcases t with t | t <;> first | (intro h; cases h) | (intro h; cases h)) hx (s := _)
  · cases hr
noncomputable def M.spec_TreeOk_C {R : Type} (l : List Row) (k : Bool → Option R) : Option R :=
  (M.spec_ShapeOk l).bind fun r52 =>
   (bif !r52 then (k false) else
    ((M.spec_DepthOf l).bind fun r68 =>
     (bif decide (r68 > 40) then (k false) else
      ((M.spec_TreeOk_l4 l 0).bind fun u273 =>
      sumE u273 (fun t269 => (k false)) fun u274 =>
       letE u274 fun t270 => (k true)))))
noncomputable def M.spec_TreeOk (l : List Row) : Option (Bool) := M.spec_TreeOk_C l some
theorem M.spec_TreeOk_n {R : Type} (l : List Row) (k : Bool → Option R) : M.spec_TreeOk_C l k = (M.spec_TreeOk_C l some).bind k := by
  simp only [M.spec_TreeOk_C, bif_bind, bind_bind, some_bind, none_bind, sumE_bind, optE_bind, letE_bind]
noncomputable def K.spec_TreeOk : KonC := (kcons 36 (P.spec_ShapeOk M.spec_ShapeOk pnil) (kcons 37 (P.spec_DepthOf M.spec_DepthOf pnil) knil))
noncomputable def L.spec_TreeOk : LoopC := (lcons 4 (PL.spec_TreeOk_l4) lnil)
theorem E.spec_TreeOk {R : Type} (l : List Row) (k : List Row → List Cell → Option R) : bodyC X0 (K.spec_TreeOk) (L.spec_TreeOk) 28 [V.d (D.sl false 5 l)] [] k = M.spec_TreeOk_C l (fun r => k [[D.bool r]] []) := by kernel_rfl
theorem LC.spec_TreeOk : loops (codeOf X0.P 28) = [loopCode X0.P 28 4] := by kernel_rfl
theorem C.spec_TreeOk : H.spec_TreeOk (M.spec_TreeOk) := by
  intro l r h
  exact fn_sound (enc := fun r => ([[D.bool r]], [])) (K := K.spec_TreeOk) (L := L.spec_TreeOk) (by kernel_rfl) (kcons_ok (P.spec_ShapeOk_ok C.spec_ShapeOk pnil_ok) (kcons_ok (P.spec_DepthOf_ok C.spec_DepthOf pnil_ok) knil_ok)) (by rw [LC.spec_TreeOk]; exact (LOk.cons (LpOk.at (C.spec_TreeOk_l4) (fun _ => rfl)) LOk.nil)) (by rw [E.spec_TreeOk, M.spec_TreeOk_n] <;> rfl) h

/-! spec_ProgramOk -/
def H.spec_ProgramOk (o : List Row → Option (Bool)) : Prop := ∀ (l : List Row) (r : Bool), o l = some r → call X0 17 [V.d (D.sl false 5 l)] [] = some ([[D.bool r]], [])
def P.spec_ProgramOk (o : List Row → Option (Bool)) (q : List V → List Cell → Res (List Row × List Cell)) (a : List V) (c : List Cell) : Res (List Row × List Cell) := match a, c with
  | [V.d (D.sl false 5 l)], [] => ⟨Bool, o l, fun r => ([[D.bool r]], [])⟩
  | a, c => q a c
theorem P.spec_ProgramOk_ok {o : List Row → Option (Bool)} {q : List V → List Cell → Res (List Row × List Cell)} (h : H.spec_ProgramOk o) (hq : FnOk X0 17 q) : FnOk X0 17 (P.spec_ProgramOk o q) := by
  intro a c r hr
  unfold P.spec_ProgramOk at hr
  split at hr
  · obtain ⟨x, hx, rfl⟩ := Res.val_some hr
    exact h _ x hx
  · exact hq _ _ _ hr
noncomputable def M.spec_ProgramOk_C {R : Type} (l : List Row) (k : Bool → Option R) : Option R :=
  (M.spec_TreeOk l).bind fun r275 =>
   (bif r275 then
    ((idx l (IntKind.i64.wrap ((↑l.length : Int) - 1))).bind fun row276 => ((cInt IntKind.i64 row276 0).bind fun n277 => (k (n277 == 45)))) else (k false))
noncomputable def M.spec_ProgramOk (l : List Row) : Option (Bool) := M.spec_ProgramOk_C l some
theorem M.spec_ProgramOk_n {R : Type} (l : List Row) (k : Bool → Option R) : M.spec_ProgramOk_C l k = (M.spec_ProgramOk_C l some).bind k := by
  simp only [M.spec_ProgramOk_C, bif_bind, bind_bind, some_bind, none_bind, sumE_bind, optE_bind, letE_bind]
noncomputable def K.spec_ProgramOk : KonC := (kcons 28 (P.spec_TreeOk M.spec_TreeOk pnil) knil)
noncomputable def L.spec_ProgramOk : LoopC := lnil
theorem E.spec_ProgramOk {R : Type} (l : List Row) (k : List Row → List Cell → Option R) : bodyC X0 (K.spec_ProgramOk) (L.spec_ProgramOk) 17 [V.d (D.sl false 5 l)] [] k = M.spec_ProgramOk_C l (fun r => k [[D.bool r]] []) := by kernel_rfl
theorem LC.spec_ProgramOk : loops (codeOf X0.P 17) = [] := by kernel_rfl
theorem C.spec_ProgramOk : H.spec_ProgramOk (M.spec_ProgramOk) := by
  intro l r h
  exact fn_sound (enc := fun r => ([[D.bool r]], [])) (K := K.spec_ProgramOk) (L := L.spec_ProgramOk) (by kernel_rfl) (kcons_ok (P.spec_TreeOk_ok C.spec_TreeOk pnil_ok) knil_ok) (by rw [LC.spec_ProgramOk]; exact LOk.nil) (by rw [E.spec_ProgramOk, M.spec_ProgramOk_n] <;> rfl) h

/-! spec_ItemsOf -/
def H.spec_ItemsOf (o : List Row → Option (Int)) : Prop := ∀ (l : List Row) (r : Int), o l = some r → call X0 8 [V.d (D.sl false 5 l)] [] = some ([[D.int IntKind.i64 r]], [])
def P.spec_ItemsOf (o : List Row → Option (Int)) (q : List V → List Cell → Res (List Row × List Cell)) (a : List V) (c : List Cell) : Res (List Row × List Cell) := match a, c with
  | [V.d (D.sl false 5 l)], [] => ⟨Int, o l, fun r => ([[D.int IntKind.i64 r]], [])⟩
  | a, c => q a c
theorem P.spec_ItemsOf_ok {o : List Row → Option (Int)} {q : List V → List Cell → Res (List Row × List Cell)} (h : H.spec_ItemsOf o) (hq : FnOk X0 8 q) : FnOk X0 8 (P.spec_ItemsOf o q) := by
  intro a c r hr
  unfold P.spec_ItemsOf at hr
  split at hr
  · obtain ⟨x, hx, rfl⟩ := Res.val_some hr
    exact h _ x hx
  · exact hq _ _ _ hr
noncomputable def M.spec_ItemsOf_C {R : Type} (l : List Row) (k : Int → Option R) : Option R :=
  (M.spec_ProgramOk l).bind fun r278 =>
   (bif !r278 then (k 0) else
    ((idx l (IntKind.i64.wrap ((↑l.length : Int) - 1))).bind fun row279 => ((cSl 1 row279 4).bind fun rows280 => (k ((↑rows280.length : Int))))))
noncomputable def M.spec_ItemsOf (l : List Row) : Option (Int) := M.spec_ItemsOf_C l some
theorem M.spec_ItemsOf_n {R : Type} (l : List Row) (k : Int → Option R) : M.spec_ItemsOf_C l k = (M.spec_ItemsOf_C l some).bind k := by
  simp only [M.spec_ItemsOf_C, bif_bind, bind_bind, some_bind, none_bind, sumE_bind, optE_bind, letE_bind]
noncomputable def K.spec_ItemsOf : KonC := (kcons 17 (P.spec_ProgramOk M.spec_ProgramOk pnil) knil)
noncomputable def L.spec_ItemsOf : LoopC := lnil
theorem E.spec_ItemsOf {R : Type} (l : List Row) (k : List Row → List Cell → Option R) : bodyC X0 (K.spec_ItemsOf) (L.spec_ItemsOf) 8 [V.d (D.sl false 5 l)] [] k = M.spec_ItemsOf_C l (fun r => k [[D.int IntKind.i64 r]] []) := by kernel_rfl
theorem LC.spec_ItemsOf : loops (codeOf X0.P 8) = [] := by kernel_rfl
theorem C.spec_ItemsOf : H.spec_ItemsOf (M.spec_ItemsOf) := by
  intro l r h
  exact fn_sound (enc := fun r => ([[D.int IntKind.i64 r]], [])) (K := K.spec_ItemsOf) (L := L.spec_ItemsOf) (by kernel_rfl) (kcons_ok (P.spec_ProgramOk_ok C.spec_ProgramOk pnil_ok) knil_ok) (by rw [LC.spec_ItemsOf]; exact LOk.nil) (by rw [E.spec_ItemsOf, M.spec_ItemsOf_n] <;> rfl) h

/-! impl_startsOf (a primitive) -/
def H.impl_startsOf (o : List Row → Option (List Row × Bool)) : Prop := ∀ (l : List Row) (r : List Row × Bool), o l = some r → call X0 59 [V.d (D.sl false 5 l)] [] = some ([[D.sl true 1 r.fst], [D.bool r.snd]], [])
def P.impl_startsOf (o : List Row → Option (List Row × Bool)) (q : List V → List Cell → Res (List Row × List Cell)) (a : List V) (c : List Cell) : Res (List Row × List Cell) := match a, c with
  | [V.d (D.sl false 5 l)], [] => ⟨List Row × Bool, o l, fun r => ([[D.sl true 1 r.fst], [D.bool r.snd]], [])⟩
  | a, c => q a c
theorem P.impl_startsOf_ok {o : List Row → Option (List Row × Bool)} {q : List V → List Cell → Res (List Row × List Cell)} (h : H.impl_startsOf o) (hq : FnOk X0 59 q) : FnOk X0 59 (P.impl_startsOf o q) := by
  intro a c r hr
  unfold P.impl_startsOf at hr
  split at hr
  · obtain ⟨x, hx, rfl⟩ := Res.val_some hr
    exact h _ x hx
  · exact hq _ _ _ hr
theorem C.impl_startsOf : H.impl_startsOf M.impl_startsOf := fun l r h => call_of_prim (p := Prim.impl_startsOf) (by kernel_rfl) (by show Option.map _ (M.impl_startsOf l) = _; rw [h]; rfl)

/-! impl_ShapeOk -/
def H.impl_ShapeOk (o : List Row → Option (Bool)) : Prop := ∀ (l : List Row) (r : Bool), o l = some r → call X0 40 [V.d (D.sl false 5 l)] [] = some ([[D.bool r]], [])
def P.impl_ShapeOk (o : List Row → Option (Bool)) (q : List V → List Cell → Res (List Row × List Cell)) (a : List V) (c : List Cell) : Res (List Row × List Cell) := match a, c with
  | [V.d (D.sl false 5 l)], [] => ⟨Bool, o l, fun r => ([[D.bool r]], [])⟩
  | a, c => q a c
theorem P.impl_ShapeOk_ok {o : List Row → Option (Bool)} {q : List V → List Cell → Res (List Row × List Cell)} (h : H.impl_ShapeOk o) (hq : FnOk X0 40 q) : FnOk X0 40 (P.impl_ShapeOk o q) := by
  intro a c r hr
  unfold P.impl_ShapeOk at hr
  split at hr
  · obtain ⟨x, hx, rfl⟩ := Res.val_some hr
    exact h _ x hx
  · exact hq _ _ _ hr
noncomputable def M.impl_ShapeOk_C {R : Type} (l : List Row) (k : Bool → Option R) : Option R :=
  (M.impl_startsOf l).bind fun r283 => (k r283.snd)
noncomputable def M.impl_ShapeOk (l : List Row) : Option (Bool) := M.impl_ShapeOk_C l some
theorem M.impl_ShapeOk_n {R : Type} (l : List Row) (k : Bool → Option R) : M.impl_ShapeOk_C l k = (M.impl_ShapeOk_C l some).bind k := by
  simp only [M.impl_ShapeOk_C, bif_bind, bind_bind, some_bind, none_bind, sumE_bind, optE_bind, letE_bind]
noncomputable def K.impl_ShapeOk : KonC := (kcons 59 (P.impl_startsOf M.impl_startsOf pnil) knil)
noncomputable def L.impl_ShapeOk : LoopC := lnil
theorem E.impl_ShapeOk {R : Type} (l : List Row) (k : List Row → List Cell → Option R) : bodyC X0 (K.impl_ShapeOk) (L.impl_ShapeOk) 40 [V.d (D.sl false 5 l)] [] k = M.impl_ShapeOk_C l (fun r => k [[D.bool r]] []) := by kernel_rfl
theorem LC.impl_ShapeOk : loops (codeOf X0.P 40) = [] := by kernel_rfl
theorem C.impl_ShapeOk : H.impl_ShapeOk (M.impl_ShapeOk) := by
  intro l r h
  exact fn_sound (enc := fun r => ([[D.bool r]], [])) (K := K.impl_ShapeOk) (L := L.impl_ShapeOk) (by kernel_rfl) (kcons_ok (P.impl_startsOf_ok C.impl_startsOf pnil_ok) knil_ok) (by rw [LC.impl_ShapeOk]; exact LOk.nil) (by rw [E.impl_ShapeOk, M.impl_ShapeOk_n] <;> rfl) h

/-! impl_within -/
def H.impl_within (o : Int → Int → Int → Option (Bool)) : Prop := ∀ (n' : Int) (low : Int) (high : Int) (r : Bool), o n' low high = some r → call X0 64 [V.d (D.int IntKind.i64 n'), V.d (D.int IntKind.i64 low), V.d (D.int IntKind.i64 high)] [] = some ([[D.bool r]], [])
def P.impl_within (o : Int → Int → Int → Option (Bool)) (q : List V → List Cell → Res (List Row × List Cell)) (a : List V) (c : List Cell) : Res (List Row × List Cell) := match a, c with
  | [V.d (D.int IntKind.i64 n'), V.d (D.int IntKind.i64 low), V.d (D.int IntKind.i64 high)], [] => ⟨Bool, o n' low high, fun r => ([[D.bool r]], [])⟩
  | a, c => q a c
theorem P.impl_within_ok {o : Int → Int → Int → Option (Bool)} {q : List V → List Cell → Res (List Row × List Cell)} (h : H.impl_within o) (hq : FnOk X0 64 q) : FnOk X0 64 (P.impl_within o q) := by
  intro a c r hr
  unfold P.impl_within at hr
  split at hr
  · obtain ⟨x, hx, rfl⟩ := Res.val_some hr
    exact h _ _ _ x hx
  · exact hq _ _ _ hr
noncomputable def M.impl_within_C {R : Type} (n' : Int) (low : Int) (high : Int) (k : Bool → Option R) : Option R :=
  bif decide (n' ≥ low) then (k (decide (n' ≤ high))) else (k false)
noncomputable def M.impl_within (n' : Int) (low : Int) (high : Int) : Option (Bool) := M.impl_within_C n' low high some
theorem M.impl_within_n {R : Type} (n' : Int) (low : Int) (high : Int) (k : Bool → Option R) : M.impl_within_C n' low high k = (M.impl_within_C n' low high some).bind k := by
  simp only [M.impl_within_C, bif_bind, bind_bind, some_bind, none_bind, sumE_bind, optE_bind, letE_bind]
noncomputable def K.impl_within : KonC := knil
noncomputable def L.impl_within : LoopC := lnil
theorem E.impl_within {R : Type} (n' : Int) (low : Int) (high : Int) (k : List Row → List Cell → Option R) : bodyC X0 (K.impl_within) (L.impl_within) 64 [V.d (D.int IntKind.i64 n'), V.d (D.int IntKind.i64 low), V.d (D.int IntKind.i64 high)] [] k = M.impl_within_C n' low high (fun r => k [[D.bool r]] []) := by kernel_rfl
theorem LC.impl_within : loops (codeOf X0.P 64) = [] := by kernel_rfl
theorem C.impl_within : H.impl_within (M.impl_within) := by
  intro n' low high r h
  exact fn_sound (enc := fun r => ([[D.bool r]], [])) (K := K.impl_within) (L := L.impl_within) (by kernel_rfl) knil_ok (by rw [LC.impl_within]; exact LOk.nil) (by rw [E.impl_within, M.impl_within_n] <;> rfl) h

/-! impl_IsExpr -/
def H.impl_IsExpr (o : Int → Option (Bool)) : Prop := ∀ (kind : Int) (r : Bool), o kind = some r → call X0 60 [V.d (D.int IntKind.i64 kind)] [] = some ([[D.bool r]], [])
def P.impl_IsExpr (o : Int → Option (Bool)) (q : List V → List Cell → Res (List Row × List Cell)) (a : List V) (c : List Cell) : Res (List Row × List Cell) := match a, c with
  | [V.d (D.int IntKind.i64 kind)], [] => ⟨Bool, o kind, fun r => ([[D.bool r]], [])⟩
  | a, c => q a c
theorem P.impl_IsExpr_ok {o : Int → Option (Bool)} {q : List V → List Cell → Res (List Row × List Cell)} (h : H.impl_IsExpr o) (hq : FnOk X0 60 q) : FnOk X0 60 (P.impl_IsExpr o q) := by
  intro a c r hr
  unfold P.impl_IsExpr at hr
  split at hr
  · obtain ⟨x, hx, rfl⟩ := Res.val_some hr
    exact h _ x hx
  · exact hq _ _ _ hr
noncomputable def M.impl_IsExpr_C {R : Type} (kind : Int) (k : Bool → Option R) : Option R :=
  (M.impl_within kind 1 15).bind fun r291 => (k r291)
noncomputable def M.impl_IsExpr (kind : Int) : Option (Bool) := M.impl_IsExpr_C kind some
theorem M.impl_IsExpr_n {R : Type} (kind : Int) (k : Bool → Option R) : M.impl_IsExpr_C kind k = (M.impl_IsExpr_C kind some).bind k := by
  simp only [M.impl_IsExpr_C, bif_bind, bind_bind, some_bind, none_bind, sumE_bind, optE_bind, letE_bind]
noncomputable def K.impl_IsExpr : KonC := (kcons 64 (P.impl_within M.impl_within pnil) knil)
noncomputable def L.impl_IsExpr : LoopC := lnil
theorem E.impl_IsExpr {R : Type} (kind : Int) (k : List Row → List Cell → Option R) : bodyC X0 (K.impl_IsExpr) (L.impl_IsExpr) 60 [V.d (D.int IntKind.i64 kind)] [] k = M.impl_IsExpr_C kind (fun r => k [[D.bool r]] []) := by kernel_rfl
theorem LC.impl_IsExpr : loops (codeOf X0.P 60) = [] := by kernel_rfl
theorem C.impl_IsExpr : H.impl_IsExpr (M.impl_IsExpr) := by
  intro kind r h
  exact fn_sound (enc := fun r => ([[D.bool r]], [])) (K := K.impl_IsExpr) (L := L.impl_IsExpr) (by kernel_rfl) (kcons_ok (P.impl_within_ok C.impl_within pnil_ok) knil_ok) (by rw [LC.impl_IsExpr]; exact LOk.nil) (by rw [E.impl_IsExpr, M.impl_IsExpr_n] <;> rfl) h

/-! impl_IsLetter -/
def H.impl_IsLetter (o : Int → Option (Bool)) : Prop := ∀ (b : Int) (r : Bool), o b = some r → call X0 120 [V.d (D.int IntKind.i64 b)] [] = some ([[D.bool r]], [])
def P.impl_IsLetter (o : Int → Option (Bool)) (q : List V → List Cell → Res (List Row × List Cell)) (a : List V) (c : List Cell) : Res (List Row × List Cell) := match a, c with
  | [V.d (D.int IntKind.i64 b)], [] => ⟨Bool, o b, fun r => ([[D.bool r]], [])⟩
  | a, c => q a c
theorem P.impl_IsLetter_ok {o : Int → Option (Bool)} {q : List V → List Cell → Res (List Row × List Cell)} (h : H.impl_IsLetter o) (hq : FnOk X0 120 q) : FnOk X0 120 (P.impl_IsLetter o q) := by
  intro a c r hr
  unfold P.impl_IsLetter at hr
  split at hr
  · obtain ⟨x, hx, rfl⟩ := Res.val_some hr
    exact h _ x hx
  · exact hq _ _ _ hr
noncomputable def M.impl_IsLetter_C {R : Type} (b : Int) (k : Bool → Option R) : Option R :=
  bif decide (b ≥ 97) then
   (bif decide (b ≤ 122) then (k true) else
    (bif decide (b ≥ 65) then (bif decide (b ≤ 90) then (k true) else (k (b == 95))) else (k (b == 95)))) else
   (bif decide (b ≥ 65) then (bif decide (b ≤ 90) then (k true) else (k (b == 95))) else (k (b == 95)))
noncomputable def M.impl_IsLetter (b : Int) : Option (Bool) := M.impl_IsLetter_C b some
theorem M.impl_IsLetter_n {R : Type} (b : Int) (k : Bool → Option R) : M.impl_IsLetter_C b k = (M.impl_IsLetter_C b some).bind k := by
  simp only [M.impl_IsLetter_C, bif_bind, bind_bind, some_bind, none_bind, sumE_bind, optE_bind, letE_bind]
noncomputable def K.impl_IsLetter : KonC := knil
noncomputable def L.impl_IsLetter : LoopC := lnil
theorem E.impl_IsLetter {R : Type} (b : Int) (k : List Row → List Cell → Option R) : bodyC X0 (K.impl_IsLetter) (L.impl_IsLetter) 120 [V.d (D.int IntKind.i64 b)] [] k = M.impl_IsLetter_C b (fun r => k [[D.bool r]] []) := by kernel_rfl
theorem LC.impl_IsLetter : loops (codeOf X0.P 120) = [] := by kernel_rfl
theorem C.impl_IsLetter : H.impl_IsLetter (M.impl_IsLetter) := by
  intro b r h
  exact fn_sound (enc := fun r => ([[D.bool r]], [])) (K := K.impl_IsLetter) (L := L.impl_IsLetter) (by kernel_rfl) knil_ok (by rw [LC.impl_IsLetter]; exact LOk.nil) (by rw [E.impl_IsLetter, M.impl_IsLetter_n] <;> rfl) h

/-! impl_IsDigit -/
def H.impl_IsDigit (o : Int → Option (Bool)) : Prop := ∀ (b : Int) (r : Bool), o b = some r → call X0 127 [V.d (D.int IntKind.i64 b)] [] = some ([[D.bool r]], [])
def P.impl_IsDigit (o : Int → Option (Bool)) (q : List V → List Cell → Res (List Row × List Cell)) (a : List V) (c : List Cell) : Res (List Row × List Cell) := match a, c with
  | [V.d (D.int IntKind.i64 b)], [] => ⟨Bool, o b, fun r => ([[D.bool r]], [])⟩
  | a, c => q a c
theorem P.impl_IsDigit_ok {o : Int → Option (Bool)} {q : List V → List Cell → Res (List Row × List Cell)} (h : H.impl_IsDigit o) (hq : FnOk X0 127 q) : FnOk X0 127 (P.impl_IsDigit o q) := by
  intro a c r hr
  unfold P.impl_IsDigit at hr
  split at hr
  · obtain ⟨x, hx, rfl⟩ := Res.val_some hr
    exact h _ x hx
  · exact hq _ _ _ hr
noncomputable def M.impl_IsDigit_C {R : Type} (b : Int) (k : Bool → Option R) : Option R :=
  bif decide (b ≥ 48) then (k (decide (b ≤ 57))) else (k false)
noncomputable def M.impl_IsDigit (b : Int) : Option (Bool) := M.impl_IsDigit_C b some
theorem M.impl_IsDigit_n {R : Type} (b : Int) (k : Bool → Option R) : M.impl_IsDigit_C b k = (M.impl_IsDigit_C b some).bind k := by
  simp only [M.impl_IsDigit_C, bif_bind, bind_bind, some_bind, none_bind, sumE_bind, optE_bind, letE_bind]
noncomputable def K.impl_IsDigit : KonC := knil
noncomputable def L.impl_IsDigit : LoopC := lnil
theorem E.impl_IsDigit {R : Type} (b : Int) (k : List Row → List Cell → Option R) : bodyC X0 (K.impl_IsDigit) (L.impl_IsDigit) 127 [V.d (D.int IntKind.i64 b)] [] k = M.impl_IsDigit_C b (fun r => k [[D.bool r]] []) := by kernel_rfl
theorem LC.impl_IsDigit : loops (codeOf X0.P 127) = [] := by kernel_rfl
theorem C.impl_IsDigit : H.impl_IsDigit (M.impl_IsDigit) := by
  intro b r h
  exact fn_sound (enc := fun r => ([[D.bool r]], [])) (K := K.impl_IsDigit) (L := L.impl_IsDigit) (by kernel_rfl) knil_ok (by rw [LC.impl_IsDigit]; exact LOk.nil) (by rw [E.impl_IsDigit, M.impl_IsDigit_n] <;> rfl) h

/-! impl_IsWordByte -/
def H.impl_IsWordByte (o : Int → Option (Bool)) : Prop := ∀ (b : Int) (r : Bool), o b = some r → call X0 119 [V.d (D.int IntKind.i64 b)] [] = some ([[D.bool r]], [])
def P.impl_IsWordByte (o : Int → Option (Bool)) (q : List V → List Cell → Res (List Row × List Cell)) (a : List V) (c : List Cell) : Res (List Row × List Cell) := match a, c with
  | [V.d (D.int IntKind.i64 b)], [] => ⟨Bool, o b, fun r => ([[D.bool r]], [])⟩
  | a, c => q a c
theorem P.impl_IsWordByte_ok {o : Int → Option (Bool)} {q : List V → List Cell → Res (List Row × List Cell)} (h : H.impl_IsWordByte o) (hq : FnOk X0 119 q) : FnOk X0 119 (P.impl_IsWordByte o q) := by
  intro a c r hr
  unfold P.impl_IsWordByte at hr
  split at hr
  · obtain ⟨x, hx, rfl⟩ := Res.val_some hr
    exact h _ x hx
  · exact hq _ _ _ hr
noncomputable def M.impl_IsWordByte_C {R : Type} (b : Int) (k : Bool → Option R) : Option R :=
  (M.impl_IsLetter b).bind fun r294 => (bif r294 then (k true) else ((M.impl_IsDigit b).bind fun r295 => (k r295)))
noncomputable def M.impl_IsWordByte (b : Int) : Option (Bool) := M.impl_IsWordByte_C b some
theorem M.impl_IsWordByte_n {R : Type} (b : Int) (k : Bool → Option R) : M.impl_IsWordByte_C b k = (M.impl_IsWordByte_C b some).bind k := by
  simp only [M.impl_IsWordByte_C, bif_bind, bind_bind, some_bind, none_bind, sumE_bind, optE_bind, letE_bind]
noncomputable def K.impl_IsWordByte : KonC := (kcons 120 (P.impl_IsLetter M.impl_IsLetter pnil) (kcons 127 (P.impl_IsDigit M.impl_IsDigit pnil) knil))
noncomputable def L.impl_IsWordByte : LoopC := lnil
theorem E.impl_IsWordByte {R : Type} (b : Int) (k : List Row → List Cell → Option R) : bodyC X0 (K.impl_IsWordByte) (L.impl_IsWordByte) 119 [V.d (D.int IntKind.i64 b)] [] k = M.impl_IsWordByte_C b (fun r => k [[D.bool r]] []) := by kernel_rfl
theorem LC.impl_IsWordByte : loops (codeOf X0.P 119) = [] := by kernel_rfl
theorem C.impl_IsWordByte : H.impl_IsWordByte (M.impl_IsWordByte) := by
  intro b r h
  exact fn_sound (enc := fun r => ([[D.bool r]], [])) (K := K.impl_IsWordByte) (L := L.impl_IsWordByte) (by kernel_rfl) (kcons_ok (P.impl_IsLetter_ok C.impl_IsLetter pnil_ok) (kcons_ok (P.impl_IsDigit_ok C.impl_IsDigit pnil_ok) knil_ok)) (by rw [LC.impl_IsWordByte]; exact LOk.nil) (by rw [E.impl_IsWordByte, M.impl_IsWordByte_n] <;> rfl) h

/-! impl_NameShape -/
def H.impl_NameShape (o : List UInt8 → Option (Bool)) : Prop := ∀ (s' : List UInt8) (r : Bool), o s' = some r → call X0 102 [V.d (D.str s')] [] = some ([[D.bool r]], [])
def P.impl_NameShape (o : List UInt8 → Option (Bool)) (q : List V → List Cell → Res (List Row × List Cell)) (a : List V) (c : List Cell) : Res (List Row × List Cell) := match a, c with
  | [V.d (D.str s')], [] => ⟨Bool, o s', fun r => ([[D.bool r]], [])⟩
  | a, c => q a c
theorem P.impl_NameShape_ok {o : List UInt8 → Option (Bool)} {q : List V → List Cell → Res (List Row × List Cell)} (h : H.impl_NameShape o) (hq : FnOk X0 102 q) : FnOk X0 102 (P.impl_NameShape o q) := by
  intro a c r hr
  unfold P.impl_NameShape at hr
  split at hr
  · obtain ⟨x, hx, rfl⟩ := Res.val_some hr
    exact h _ x hx
  · exact hq _ _ _ hr
noncomputable def M.impl_NameShape_l2_C {R : Type} (s' : List UInt8) (v5 : Int) (s : Int) (kn : Int → Option R) (ke : (Unit) ⊕ (Int) → Option R) : Option R := match s with
  | v6 =>
    bif decide (v6 < v5) then
     ((idx s' v6).bind fun c293 =>
      ((M.impl_IsWordByte (IntKind.i64.wrap (↑c293.toNat : Int))).bind fun r296 => (bif !r296 then (ke (.inl ())) else (kn (IntKind.i64.wrap (v6 + 1)))))) else (ke (.inr v6))
noncomputable def M.impl_NameShape_l2_b (s' : List UInt8) (v5 : Int) (s : Int) : Option ((Int) ⊕ ((Unit) ⊕ (Int))) := M.impl_NameShape_l2_C s' v5 s (fun s => some (.inl s)) (fun t => some (.inr t))
noncomputable def M.impl_NameShape_l2 (s' : List UInt8) (v5 : Int) (s : Int) : Option ((Unit) ⊕ (Int)) := loopM (M.impl_NameShape_l2_b s' v5) s
theorem M.impl_NameShape_l2_n {R : Type} (s' : List UInt8) (v5 : Int) (s : Int) (kn : Int → Option R) (ke : (Unit) ⊕ (Int) → Option R) : M.impl_NameShape_l2_C s' v5 s kn ke = (M.impl_NameShape_l2_b s' v5 s).bind fun r => match r with | .inl s => kn s | .inr t => ke t := by
  skip
  all_goals
    simp only [M.impl_NameShape_l2_b, M.impl_NameShape_l2_C, bif_bind, bind_bind, some_bind, none_bind, sumE_bind, optE_bind, letE_bind]
def A.impl_NameShape_l2 (s' : List UInt8) (v5 : Int) : Alt (Ex × St) := .sum (.leaf (Unit) (fun t => (Ex.ret, { tm := [(2, V.d (D.bool false))], mem := [] }))) (.leaf (Int) (fun t => (Ex.exit 0, { tm := [(0, V.d (D.str s')), (5, V.d (D.int IntKind.i64 v5)), (6, V.d (D.int IntKind.i64 t)), (7, V.d (D.bool false))], mem := [] })))
def T.impl_NameShape_l2 (s' : List UInt8) (v5 : Int) (s : Int) : St := match s with
  | v6 => { tm := [(0, V.d (D.str s')), (5, V.d (D.int IntKind.i64 v5)), (6, V.d (D.int IntKind.i64 v6))], mem := [] }
noncomputable def K.impl_NameShape_l2 : KonC := (kcons 119 (P.impl_IsWordByte M.impl_IsWordByte pnil) knil)
noncomputable def L.impl_NameShape_l2 : LoopC := lnil
theorem E.impl_NameShape_l2 {R : Type} (s' : List UInt8) (v5 : Int) (s : Int) (k : Ex → St → Option R) : denC X0 (K.impl_NameShape_l2) (L.impl_NameShape_l2) 102 (loopCode X0.P 102 2) (T.impl_NameShape_l2 s' v5 s) k = M.impl_NameShape_l2_C s' v5 s (fun s => k .normal (T.impl_NameShape_l2 s' v5 s)) (fun t => (A.impl_NameShape_l2 s' v5).go t fun r => k r.1 r.2) := by
  skip
  all_goals kernel_rfl
theorem LC.impl_NameShape_l2 : loops (loopCode X0.P 102 2) = [] := by kernel_rfl
noncomputable def PL.impl_NameShape_l2 (S : St) : ResA (Ex × St) := match S with
  | { tm := [(0, V.d (D.str s')), (5, V.d (D.int IntKind.i64 v5)), (6, V.d (D.int IntKind.i64 v6))], mem := [] } => ⟨A.impl_NameShape_l2 s' v5, M.impl_NameShape_l2 s' v5 v6⟩
  | _ => .none
theorem C.impl_NameShape_l2 : LpOk X0 102 2 (loopCode X0.P 102 2) (PL.impl_NameShape_l2) := by
  refine ⟨by kernel_rfl, fun S r hr => ?_⟩
  unfold PL.impl_NameShape_l2 at hr
  split at hr
  · obtain ⟨x, hx, rfl⟩ := ResA.val_some hr
    exact lp_sound (K := K.impl_NameShape_l2) (L := L.impl_NameShape_l2) (b := M.impl_NameShape_l2_b _ _) (tm := T.impl_NameShape_l2 _ _) (tx := (A.impl_NameShape_l2 _ _).enc) (kcons_ok (P.impl_IsWordByte_ok C.impl_IsWordByte pnil_ok) knil_ok) (by rw [LC.impl_NameShape_l2]; exact LOk.nil) (fun s => by rw [E.impl_NameShape_l2, M.impl_NameShape_l2_n]; congr 1; funext r; cases r <;> first | rfl | exact Alt.go_eq _ _ _) (by intro t; rcases t with t | t <;> first | (intro h; cases h) | (intro h; cases h)) hx (s := _)
  · cases hr
noncomputable def M.impl_NameShape_C {R : Type} (s' : List UInt8) (k : Bool → Option R) : Option R :=
  (M.impl_NameShape_l2 s' ((↑s'.length : Int)) 0).bind fun u302 =>
  sumE u302 (fun t297 => (k false)) fun u303 =>
   letE u303 fun t298 =>
    ((M.impl_within ((↑s'.length : Int)) 1 12).bind fun r299 =>
     (bif r299 then
      ((idx s' 0).bind fun c300 => ((M.impl_IsLetter (IntKind.i64.wrap (↑c300.toNat : Int))).bind fun r301 => (k r301))) else (k false)))
noncomputable def M.impl_NameShape (s' : List UInt8) : Option (Bool) := M.impl_NameShape_C s' some
theorem M.impl_NameShape_n {R : Type} (s' : List UInt8) (k : Bool → Option R) : M.impl_NameShape_C s' k = (M.impl_NameShape_C s' some).bind k := by
  simp only [M.impl_NameShape_C, bif_bind, bind_bind, some_bind, none_bind, sumE_bind, optE_bind, letE_bind]
noncomputable def K.impl_NameShape : KonC := (kcons 64 (P.impl_within M.impl_within pnil) (kcons 120 (P.impl_IsLetter M.impl_IsLetter pnil) knil))
noncomputable def L.impl_NameShape : LoopC := (lcons 2 (PL.impl_NameShape_l2) lnil)
theorem E.impl_NameShape {R : Type} (s' : List UInt8) (k : List Row → List Cell → Option R) : bodyC X0 (K.impl_NameShape) (L.impl_NameShape) 102 [V.d (D.str s')] [] k = M.impl_NameShape_C s' (fun r => k [[D.bool r]] []) := by kernel_rfl
theorem LC.impl_NameShape : loops (codeOf X0.P 102) = [loopCode X0.P 102 2] := by kernel_rfl
theorem C.impl_NameShape : H.impl_NameShape (M.impl_NameShape) := by
  intro s' r h
  exact fn_sound (enc := fun r => ([[D.bool r]], [])) (K := K.impl_NameShape) (L := L.impl_NameShape) (by kernel_rfl) (kcons_ok (P.impl_within_ok C.impl_within pnil_ok) (kcons_ok (P.impl_IsLetter_ok C.impl_IsLetter pnil_ok) knil_ok)) (by rw [LC.impl_NameShape]; exact (LOk.cons (LpOk.at (C.impl_NameShape_l2) (fun _ => rfl)) LOk.nil)) (by rw [E.impl_NameShape, M.impl_NameShape_n] <;> rfl) h

/-! slices_Index -/
def H.slices_Index (o : List Row → List UInt8 → Option (Int)) : Prop := ∀ (s' : List Row) (v : List UInt8) (r : Int), o s' v = some r → call X0 109 [V.d (D.sl false 1 s'), V.d (D.str v)] [] = some ([[D.int IntKind.i64 r]], [])
def P.slices_Index (o : List Row → List UInt8 → Option (Int)) (q : List V → List Cell → Res (List Row × List Cell)) (a : List V) (c : List Cell) : Res (List Row × List Cell) := match a, c with
  | [V.d (D.sl false 1 s'), V.d (D.str v)], [] => ⟨Int, o s' v, fun r => ([[D.int IntKind.i64 r]], [])⟩
  | a, c => q a c
theorem P.slices_Index_ok {o : List Row → List UInt8 → Option (Int)} {q : List V → List Cell → Res (List Row × List Cell)} (h : H.slices_Index o) (hq : FnOk X0 109 q) : FnOk X0 109 (P.slices_Index o q) := by
  intro a c r hr
  unfold P.slices_Index at hr
  split at hr
  · obtain ⟨x, hx, rfl⟩ := Res.val_some hr
    exact h _ _ x hx
  · exact hq _ _ _ hr
noncomputable def M.slices_Index_l2_C {R : Type} (s' : List Row) (v : List UInt8) (v7 : Int) (s : Int) (kn : Int → Option R) (ke : (Int) ⊕ (Int) → Option R) : Option R := match s with
  | v8 =>
    bif decide (v8 < v7) then
     ((idx s' v8).bind fun row305 =>
      ((cStr row305 0).bind fun s306 => (bif v == s306 then (ke (.inl v8)) else (kn (IntKind.i64.wrap (v8 + 1)))))) else (ke (.inr v8))
noncomputable def M.slices_Index_l2_b (s' : List Row) (v : List UInt8) (v7 : Int) (s : Int) : Option ((Int) ⊕ ((Int) ⊕ (Int))) := M.slices_Index_l2_C s' v v7 s (fun s => some (.inl s)) (fun t => some (.inr t))
noncomputable def M.slices_Index_l2 (s' : List Row) (v : List UInt8) (v7 : Int) (s : Int) : Option ((Int) ⊕ (Int)) := loopM (M.slices_Index_l2_b s' v v7) s
theorem M.slices_Index_l2_n {R : Type} (s' : List Row) (v : List UInt8) (v7 : Int) (s : Int) (kn : Int → Option R) (ke : (Int) ⊕ (Int) → Option R) : M.slices_Index_l2_C s' v v7 s kn ke = (M.slices_Index_l2_b s' v v7 s).bind fun r => match r with | .inl s => kn s | .inr t => ke t := by
  skip
  all_goals
    simp only [M.slices_Index_l2_b, M.slices_Index_l2_C, bif_bind, bind_bind, some_bind, none_bind, sumE_bind, optE_bind, letE_bind]
def A.slices_Index_l2 (s' : List Row) (v : List UInt8) (v7 : Int) : Alt (Ex × St) := .sum (.leaf (Int) (fun t => (Ex.ret, { tm := [(4, V.d (D.int IntKind.i64 t))], mem := [] }))) (.leaf (Int) (fun t => (Ex.exit 0, { tm := [(0, V.d (D.sl false 1 s')), (1, V.d (D.str v)), (7, V.d (D.int IntKind.i64 v7)), (8, V.d (D.int IntKind.i64 t)), (9, V.d (D.bool false))], mem := [] })))
def T.slices_Index_l2 (s' : List Row) (v : List UInt8) (v7 : Int) (s : Int) : St := match s with
  | v8 => { tm := [(0, V.d (D.sl false 1 s')), (1, V.d (D.str v)), (7, V.d (D.int IntKind.i64 v7)), (8, V.d (D.int IntKind.i64 v8))], mem := [] }
noncomputable def K.slices_Index_l2 : KonC := knil
noncomputable def L.slices_Index_l2 : LoopC := lnil
theorem E.slices_Index_l2 {R : Type} (s' : List Row) (v : List UInt8) (v7 : Int) (s : Int) (k : Ex → St → Option R) : denC X0 (K.slices_Index_l2) (L.slices_Index_l2) 109 (loopCode X0.P 109 2) (T.slices_Index_l2 s' v v7 s) k = M.slices_Index_l2_C s' v v7 s (fun s => k .normal (T.slices_Index_l2 s' v v7 s)) (fun t => (A.slices_Index_l2 s' v v7).go t fun r => k r.1 r.2) := by
  skip
  all_goals kernel_rfl
theorem LC.slices_Index_l2 : loops (loopCode X0.P 109 2) = [] := by kernel_rfl
noncomputable def PL.slices_Index_l2 (S : St) : ResA (Ex × St) := match S with
  | { tm := [(0, V.d (D.sl false 1 s')), (1, V.d (D.str v)), (7, V.d (D.int IntKind.i64 v7)), (8, V.d (D.int IntKind.i64 v8))], mem := [] } => ⟨A.slices_Index_l2 s' v v7, M.slices_Index_l2 s' v v7 v8⟩
  | _ => .none
theorem C.slices_Index_l2 : LpOk X0 109 2 (loopCode X0.P 109 2) (PL.slices_Index_l2) := by
  refine ⟨by kernel_rfl, fun S r hr => ?_⟩
  unfold PL.slices_Index_l2 at hr
  split at hr
  · obtain ⟨x, hx, rfl⟩ := ResA.val_some hr
    exact lp_sound (K := K.slices_Index_l2) (L := L.slices_Index_l2) (b := M.slices_Index_l2_b _ _ _) (tm := T.slices_Index_l2 _ _ _) (tx := (A.slices_Index_l2 _ _ _).enc) knil_ok (by rw [LC.slices_Index_l2]; exact LOk.nil) (fun s => by rw [E.slices_Index_l2, M.slices_Index_l2_n]; congr 1; funext r; cases r <;> first | rfl | exact Alt.go_eq _ _ _) (by intro t; rcases t with t | t <;> first | (intro h; cases h) | (intro h; cases h)) hx (s := _)
  · cases hr
noncomputable def M.slices_Index_C {R : Type} (s' : List Row) (v : List UInt8) (k : Int → Option R) : Option R :=
  (M.slices_Index_l2 s' v ((↑s'.length : Int)) 0).bind fun u309 =>
  sumE u309 (fun t307 => (k t307)) fun u310 =>
   letE u310 fun t308 => (k (-1))
noncomputable def M.slices_Index (s' : List Row) (v : List UInt8) : Option (Int) := M.slices_Index_C s' v some
theorem M.slices_Index_n {R : Type} (s' : List Row) (v : List UInt8) (k : Int → Option R) : M.slices_Index_C s' v k = (M.slices_Index_C s' v some).bind k := by
  simp only [M.slices_Index_C, bif_bind, bind_bind, some_bind, none_bind, sumE_bind, optE_bind, letE_bind]
noncomputable def K.slices_Index : KonC := knil
noncomputable def L.slices_Index : LoopC := (lcons 2 (PL.slices_Index_l2) lnil)
theorem E.slices_Index {R : Type} (s' : List Row) (v : List UInt8) (k : List Row → List Cell → Option R) : bodyC X0 (K.slices_Index) (L.slices_Index) 109 [V.d (D.sl false 1 s'), V.d (D.str v)] [] k = M.slices_Index_C s' v (fun r => k [[D.int IntKind.i64 r]] []) := by kernel_rfl
theorem LC.slices_Index : loops (codeOf X0.P 109) = [loopCode X0.P 109 2] := by kernel_rfl
theorem C.slices_Index : H.slices_Index (M.slices_Index) := by
  intro s' v r h
  exact fn_sound (enc := fun r => ([[D.int IntKind.i64 r]], [])) (K := K.slices_Index) (L := L.slices_Index) (by kernel_rfl) knil_ok (by rw [LC.slices_Index]; exact (LOk.cons (LpOk.at (C.slices_Index_l2) (fun _ => rfl)) LOk.nil)) (by rw [E.slices_Index, M.slices_Index_n] <;> rfl) h

/-! impl_KeywordOf -/
def H.impl_KeywordOf (o : List UInt8 → Option (Int)) : Prop := ∀ (s' : List UInt8) (r : Int), o s' = some r → call X0 103 [V.d (D.str s')] [] = some ([[D.int IntKind.i64 r]], [])
def P.impl_KeywordOf (o : List UInt8 → Option (Int)) (q : List V → List Cell → Res (List Row × List Cell)) (a : List V) (c : List Cell) : Res (List Row × List Cell) := match a, c with
  | [V.d (D.str s')], [] => ⟨Int, o s', fun r => ([[D.int IntKind.i64 r]], [])⟩
  | a, c => q a c
theorem P.impl_KeywordOf_ok {o : List UInt8 → Option (Int)} {q : List V → List Cell → Res (List Row × List Cell)} (h : H.impl_KeywordOf o) (hq : FnOk X0 103 q) : FnOk X0 103 (P.impl_KeywordOf o q) := by
  intro a c r hr
  unfold P.impl_KeywordOf at hr
  split at hr
  · obtain ⟨x, hx, rfl⟩ := Res.val_some hr
    exact h _ x hx
  · exact hq _ _ _ hr
noncomputable def M.impl_KeywordOf_C {R : Type} (s' : List UInt8) (k : Int → Option R) : Option R :=
  (M.slices_Index (List.map (fun x => [x]) keywordsRow) s').bind fun r311 => (bif decide (r311 < 0) then (k 0) else (k (IntKind.i64.wrap (10 + r311))))
noncomputable def M.impl_KeywordOf (s' : List UInt8) : Option (Int) := M.impl_KeywordOf_C s' some
theorem M.impl_KeywordOf_n {R : Type} (s' : List UInt8) (k : Int → Option R) : M.impl_KeywordOf_C s' k = (M.impl_KeywordOf_C s' some).bind k := by
  simp only [M.impl_KeywordOf_C, bif_bind, bind_bind, some_bind, none_bind, sumE_bind, optE_bind, letE_bind]
noncomputable def K.impl_KeywordOf : KonC := (kcons 109 (P.slices_Index M.slices_Index pnil) knil)
noncomputable def L.impl_KeywordOf : LoopC := lnil
theorem E.impl_KeywordOf {R : Type} (s' : List UInt8) (k : List Row → List Cell → Option R) : bodyC X0 (K.impl_KeywordOf) (L.impl_KeywordOf) 103 [V.d (D.str s')] [] k = M.impl_KeywordOf_C s' (fun r => k [[D.int IntKind.i64 r]] []) := by kernel_rfl
theorem LC.impl_KeywordOf : loops (codeOf X0.P 103) = [] := by kernel_rfl
theorem C.impl_KeywordOf : H.impl_KeywordOf (M.impl_KeywordOf) := by
  intro s' r h
  exact fn_sound (enc := fun r => ([[D.int IntKind.i64 r]], [])) (K := K.impl_KeywordOf) (L := L.impl_KeywordOf) (by kernel_rfl) (kcons_ok (P.slices_Index_ok C.slices_Index pnil_ok) knil_ok) (by rw [LC.impl_KeywordOf]; exact LOk.nil) (by rw [E.impl_KeywordOf, M.impl_KeywordOf_n] <;> rfl) h

/-! slices_Contains -/
def H.slices_Contains (o : List Row → List UInt8 → Option (Bool)) : Prop := ∀ (s' : List Row) (v : List UInt8) (r : Bool), o s' v = some r → call X0 89 [V.d (D.sl false 1 s'), V.d (D.str v)] [] = some ([[D.bool r]], [])
def P.slices_Contains (o : List Row → List UInt8 → Option (Bool)) (q : List V → List Cell → Res (List Row × List Cell)) (a : List V) (c : List Cell) : Res (List Row × List Cell) := match a, c with
  | [V.d (D.sl false 1 s'), V.d (D.str v)], [] => ⟨Bool, o s' v, fun r => ([[D.bool r]], [])⟩
  | a, c => q a c
theorem P.slices_Contains_ok {o : List Row → List UInt8 → Option (Bool)} {q : List V → List Cell → Res (List Row × List Cell)} (h : H.slices_Contains o) (hq : FnOk X0 89 q) : FnOk X0 89 (P.slices_Contains o q) := by
  intro a c r hr
  unfold P.slices_Contains at hr
  split at hr
  · obtain ⟨x, hx, rfl⟩ := Res.val_some hr
    exact h _ _ x hx
  · exact hq _ _ _ hr
noncomputable def M.slices_Contains_C {R : Type} (s' : List Row) (v : List UInt8) (k : Bool → Option R) : Option R :=
  (M.slices_Index s' v).bind fun r313 => (k (decide (r313 ≥ 0)))
noncomputable def M.slices_Contains (s' : List Row) (v : List UInt8) : Option (Bool) := M.slices_Contains_C s' v some
theorem M.slices_Contains_n {R : Type} (s' : List Row) (v : List UInt8) (k : Bool → Option R) : M.slices_Contains_C s' v k = (M.slices_Contains_C s' v some).bind k := by
  simp only [M.slices_Contains_C, bif_bind, bind_bind, some_bind, none_bind, sumE_bind, optE_bind, letE_bind]
noncomputable def K.slices_Contains : KonC := (kcons 109 (P.slices_Index M.slices_Index pnil) knil)
noncomputable def L.slices_Contains : LoopC := lnil
theorem E.slices_Contains {R : Type} (s' : List Row) (v : List UInt8) (k : List Row → List Cell → Option R) : bodyC X0 (K.slices_Contains) (L.slices_Contains) 89 [V.d (D.sl false 1 s'), V.d (D.str v)] [] k = M.slices_Contains_C s' v (fun r => k [[D.bool r]] []) := by kernel_rfl
theorem LC.slices_Contains : loops (codeOf X0.P 89) = [] := by kernel_rfl
theorem C.slices_Contains : H.slices_Contains (M.slices_Contains) := by
  intro s' v r h
  exact fn_sound (enc := fun r => ([[D.bool r]], [])) (K := K.slices_Contains) (L := L.slices_Contains) (by kernel_rfl) (kcons_ok (P.slices_Index_ok C.slices_Index pnil_ok) knil_ok) (by rw [LC.slices_Contains]; exact LOk.nil) (by rw [E.slices_Contains, M.slices_Contains_n] <;> rfl) h


end Go.Proofs.YtodbelembghegaaDoor
