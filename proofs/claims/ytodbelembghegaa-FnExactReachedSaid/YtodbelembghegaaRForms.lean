/-
  The plain forms of the functions, and that they are what the functions come to.
-/
import Derived.Test.YtodbelembghegaaVm4
import Derived.Test.YtodbelembghegaaProg
import Derived.Test.YtodbelembghegaaRPrim
namespace Go.Proofs.Ytodbelembghegaa
open Go Go.Vm
set_option linter.unusedVariables false
set_option linter.unusedSimpArgs false
noncomputable section
def kp3 : List (List Nat) := [[0], [0, 14], [2], [0, 3, 4], [0, 3, 4, 5], [0, 3, 4, 5, 35], [2], [0, 3, 4, 5, 6], [0, 3, 6, 68], [2], [0, 3, 6, 7], [0, 3, 6, 7, 72], [0, 3, 6, 7], [0, 3, 6, 7, 78], [2], [8, 9], [8, 9, 10], [8, 9, 10, 11], [8, 9, 10, 11, 12], [8, 9, 10, 11, 12, 98], [2], [2]]
def kp4 : List (List Nat) := [[0, 1], [0, 1, 15], [4], [0, 1, 5], [0, 1, 5], [0, 1, 20], [4], [0, 1, 6], [0, 1, 6, 7], [0, 1, 6, 7, 8], [0, 1, 6, 7, 8, 33], [4], [0, 1, 6, 7, 8, 38], [4], [0, 1, 6, 7, 8, 9], [0, 1, 6, 8, 9], [0, 1, 6, 8, 49], [4], [0, 1, 6, 8, 10], [0, 1, 6, 8, 10], [0, 1, 6, 8, 10, 11], [0, 1, 6, 8, 10, 11], [0, 1, 6, 8, 10, 11, 57], [4], [0, 1, 6, 8, 10, 60], [4], [6, 8, 10, 12], [8, 10, 68], [4], [8, 10, 11], [10, 11], [10, 11, 73], [4], [76], [4], [4]]
def kp5 : List (List Nat) := [[0], [2]]
def kp6 : List (List Nat) := [[0], [2, 3]]
def kp7 : List (List Nat) := [[0, 1], [0, 1, 17], [4], [5], [4]]
def kp8 : List (List Nat) := [[0], [0, 8], [2], [0, 3, 4], [2]]
def kp9 : List (List Nat) := [[0], [0, 5], [2], [2]]
def kp10 : List (List Nat) := [[0, 1], [0, 1, 10], [4], [0, 1, 5], [0, 5, 14, 15, 16], [0, 5, 14, 15, 16, 17], [0, 5, 7, 14, 15, 16], [0, 5, 7, 14, 15, 16, 29], [4], [0, 5, 14, 15, 16], [0, 5, 14, 15, 16], [4]]
def kp11 : List (List Nat) := [[0], [0, 9], [2], [0, 3], [0, 3, 4], [0, 3, 4, 14], [0, 3, 4], [0, 3, 4, 5], [0, 3, 4, 5, 6], [0, 3, 4, 5, 6, 24], [0, 3, 4, 5, 6], [0, 3, 4, 5, 6], [0, 3, 4], [2]]
def kp12 : List (List Nat) := [[0, 1], [0, 1, 5], [0, 1, 5, 9], [0, 1, 5], [0, 1, 5, 17], [4], [4]]
def kp13 : List (List Nat) := [[0], [4], [4, 5], [4, 5, 6], [4, 5, 6, 21], [4, 5, 6, 7], [4, 5, 6], [4, 5, 6, 37], [5, 6], [2, 3]]
def kp14 : List (List Nat) := [[0, 1], [0, 1, 17], [4], [0, 1, 5, 6], [0, 1, 5, 6, 26, 27], [0, 1, 5, 6, 26, 27, 28], [0, 1, 5, 6, 7, 26, 27], [0, 1, 5, 6, 7, 8, 9, 26, 27], [0, 1, 5, 6, 7, 26, 27, 78], [4], [0, 1, 5, 6, 26, 27], [4]]
def kp15 : List (List Nat) := [[0, 1], [0, 1, 9], [4], [0, 1, 5], [0, 1, 5, 6], [0, 1, 5, 6, 16], [0, 1, 5, 6], [0, 1, 5, 6, 31], [4], [0, 1, 5, 6], [4]]
def kp16 : List (List Nat) := [[0, 1], [0, 1, 10], [4], [0, 1, 5], [0, 1, 5, 14], [0, 1, 5], [0, 1, 5, 80], [4], [4]]
def kp17 : List (List Nat) := [[0, 1], [0, 1, 15], [4], [4]]
def kp18 : List (List Nat) := [[0, 1], [0, 1, 10], [4], [0, 1, 5], [0, 1, 5, 14], [0, 1, 5], [0, 1, 5, 25], [4], [4]]
def kp19 : List (List Nat) := [[0, 1], [0, 1, 14], [4], [5], [4]]
def kp20 : List (List Nat) := [[0, 1], [0, 1], [0, 1, 11], [4], [0, 1, 5], [0, 1, 5, 15], [0, 1, 5], [0, 1, 5], [0, 1, 5, 25], [4], [4]]
def kp21 : List (List Nat) := [[0, 1], [0, 1, 5], [0, 1, 5, 6], [0, 1, 5, 6, 12], [0, 1, 5, 6], [0, 1, 5, 6, 7], [0, 1, 5, 6, 7, 18], [0, 1, 5, 6, 7], [0, 1, 5, 6, 7, 37], [0, 1, 5, 6, 7], [4]]
def kp22 : List (List Nat) := [[0], [0, 3], [0, 3, 4], [0, 3, 4, 11], [0, 3, 4], [0, 3, 4], [2]]
def kp23 : List (List Nat) := [[0, 1], [0, 5, 6], [0, 5, 6, 15], [0, 5, 6, 7], [0, 5, 6, 7], [0, 5, 6, 7, 21, 22, 23], [0, 5, 6, 7, 21, 22, 23, 24], [0, 5, 6, 7, 9, 21, 22, 23], [0, 5, 6, 7, 9, 21, 22, 23, 37], [0, 5, 6, 7, 21, 22, 23], [0, 5, 6, 7, 21, 22, 23], [4]]
def kp24 : List (List Nat) := [[0, 1], [0, 1, 10], [4], [0, 1, 5], [0, 1, 5, 14], [0, 1, 5], [0, 1, 5, 25], [4], [4]]
def kp25 : List (List Nat) := [[0, 1], [0, 1, 10], [4], [0, 1, 5], [0, 1, 5, 14], [0, 1, 5], [0, 1, 5, 26], [4], [4]]
def kp26 : List (List Nat) := [[0, 1], [0, 1, 5], [0, 1, 5, 9], [0, 1, 5], [0, 1, 5], [0, 1, 5], [0, 1, 5], [0, 1, 5], [4]]
def kp27 : List (List Nat) := [[0, 1], [0, 1, 5], [0, 1, 5, 9], [0, 1, 5], [0, 1, 5], [0, 1, 5], [4]]
def kp28 : List (List Nat) := [[0, 1], [0, 1, 5], [0, 1, 5, 9], [0, 1, 5], [0, 1, 5, 18], [4], [0, 1, 5], [4]]
def kp29 : List (List Nat) := [[0], [0, 4], [2, 3]]
def kp30 : List (List Nat) := [[0], [0, 3], [0, 3, 4], [0, 3, 4, 15], [0, 3, 4], [0, 3, 4], [2]]
def kp31 : List (List Nat) := [[0], [4], [2]]
def kp32 : List (List Nat) := [[0, 1, 2], [6]]
def kp33 : List (List Nat) := [[0, 1, 2], [0, 1, 2, 14], [6, 7], [0, 2, 20, 21, 22], [0, 2, 20, 21, 22, 23], [0, 2, 8, 9, 20, 21, 22], [0, 2, 8, 10, 11, 20, 21, 22], [0, 2, 8, 10, 20, 21, 22, 34], [6, 7], [0, 2, 20, 21, 22], [6, 7]]
def kp34 : List (List Nat) := [[0, 1, 2], [6]]
def kp35 : List (List Nat) := [[0], [0, 4], [0, 4, 5], [0, 4, 5, 12], [0, 4, 5], [0, 4, 5, 6], [0, 4, 5, 6, 7], [0, 4, 5, 6, 7, 24], [0, 4, 5, 6, 7], [0, 4, 5, 6, 7, 41], [2, 3], [0, 4, 5, 6, 7], [0, 4, 5], [2, 3]]
def kp36 : List (List Nat) := [[0, 1, 2], [0, 1, 2], [0, 2, 17, 18, 19], [0, 2, 17, 18, 19, 20], [0, 2, 8, 17, 18, 19], [0, 2, 17, 18, 19], [0, 2, 17, 18, 19], [6]]
def kp37 : List (List Nat) := [[0], [0, 3], [0, 3, 4], [0, 3, 4, 12], [0, 3, 4, 12, 13], [2], [0, 3, 4, 12, 18], [3], [0, 3, 4, 12, 35], [0, 3, 4, 43], [3], [3, 55], [2], [2]]
def kp38 : List (List Nat) := [[0], [2]]
def kp39 : List (List Nat) := [[0, 1], [4]]
def kp40 : List (List Nat) := [[0, 1], [0, 1, 10], [4], [0, 1, 12], [4], [0, 1, 5], [0, 1, 5, 6], [0, 1, 5, 6, 7], [1, 5, 6, 7, 8], [4]]
def kp41 : List (List Nat) := [[0], [0, 4], [0, 4, 5], [0, 4, 5], [2], [0, 10], [2], [2]]
def kp42 : List (List Nat) := [[0, 1], [0, 1, 10], [4], [0, 1, 5], [0, 1, 5, 14], [0, 1, 5], [0, 1, 5, 25], [4], [4]]
def kp43 : List (List Nat) := [[0, 1], [0, 1, 5], [4]]
def kp44 : List (List Nat) := [[0, 1, 2, 3], [0, 2, 3, 10], [0, 2, 10, 11], [0, 2, 10, 11, 57], [8, 9], [0, 2, 10, 11, 12], [0, 2, 10, 11, 12, 63], [0, 2, 10, 11, 12], [0, 2, 10, 11, 12, 13, 14], [0, 2, 10, 11, 12, 13, 82], [8, 9], [8, 9]]
def kp45 : List (List Nat) := [[1, 2], [1, 2], [1, 2, 11], [4], [1], [1, 18], [4], [4]]
def kp46 : List (List Nat) := [[0, 1], [0, 1, 5], [0, 1, 5, 9], [0, 1, 5], [0, 1, 5, 17], [4], [4]]
def kp47 : List (List Nat) := [[0, 1], [0, 1, 5], [0, 1, 5, 6], [0, 1, 5, 6, 7], [0, 1, 5, 6, 7, 12], [0, 1, 5, 6, 7], [0, 1, 5, 6, 7, 20], [4], [0, 1, 5, 6, 7, 31], [0, 1, 5, 7], [0, 1, 5, 6, 7], [0, 1, 5, 6, 7], [1, 5, 44], [5], [4]]
def kp48 : List (List Nat) := [[1, 2], [1, 2, 3], [1, 2, 3], [2, 3], [2]]
def kp49 : List (List Nat) := [[0, 1], [4]]
def kp50 : List (List Nat) := [[0], [0], [2]]
def kp51 : List (List Nat) := [[2, 3], [2, 3, 9], [4], [14], [4], [4]]
def kp52 : List (List Nat) := [[0], [0, 5], [2], [0, 3], [0, 3, 7], [0, 3], [0, 3], [2]]
def kp53 : List (List Nat) := [[0, 2, 3, 9, 30], [0, 2, 3, 9, 13, 30], [2, 3], [0, 2, 3, 4, 9, 30], [0, 2, 3, 4, 9, 17, 18, 19, 30], [0, 2, 3, 4, 9, 17, 18, 19, 20, 30], [0, 2, 3, 4, 5, 6, 9, 17, 18, 19, 30], [0, 2, 3, 4, 5, 6, 7, 9, 17, 18, 19, 30], [0, 2, 3, 4, 5, 7, 9, 17, 18, 19, 28, 30], [0, 2, 3, 4, 5, 7, 9, 17, 18, 19, 28, 30], [0, 2, 3, 4, 5, 7, 9, 17, 18, 19, 28, 30, 37], [2, 3], [0, 2, 3, 4, 5, 7, 9, 17, 18, 19, 28, 30], [0, 2, 3, 4, 9, 17, 18, 19, 30], [0, 2, 3, 4, 9, 17, 18, 19, 30], [2, 3]]
def kp54 : List (List Nat) := [[0, 1], [4]]
def kp55 : List (List Nat) := [[0, 1], [0, 1, 5], [0, 1, 5, 6], [0, 1, 5, 6, 13], [0, 1, 5, 6], [0, 1, 5, 6, 7], [0, 1, 5, 6, 7], [0, 1, 5, 6, 7, 8], [0, 1, 5, 6, 7, 8, 29], [0, 1, 5, 6, 7, 8], [0, 1, 5, 6, 7, 8], [0, 1, 5, 6], [4]]
def kp56 : List (List Nat) := [[0], [0], [0, 3], [0, 3, 34], [0, 3], [3], [2]]
def kp57 : List (List Nat) := [[0], [0, 3], [0, 3, 11], [2]]
def kp58 : List (List Nat) := [[0, 1], [0, 1, 11], [4], [0, 1, 17], [0, 1, 17, 18], [4], [0, 1, 17, 29], [4], [0, 1, 17, 44], [4], [0, 1, 17, 55], [4], [0, 1, 66], [4], [0, 1, 82], [4], [4]]
def kp59 : List (List Nat) := [[0], [0, 3], [0, 3, 4], [0, 3, 4, 10], [0, 3, 4], [0, 3, 4], [0, 5], [0, 5, 23], [2]]
def kp60 : List (List Nat) := [[0, 1], [0, 1, 7, 8], [0, 1, 7, 8, 9], [0, 1, 5, 7, 8], [0, 1, 5, 7, 8, 16], [4], [0, 1, 7, 8], [4]]
def kp61 : List (List Nat) := [[0, 2], []]
def kp62 : List (List Nat) := [[0], [0, 8], [2], [0, 3], [0, 3, 13], [0, 3], [0, 3, 25], [0, 3, 4], [0, 3, 4, 5], [0, 3, 4, 5, 32], [0, 3, 4, 5], [0, 3, 4, 5, 44], [0, 3, 4, 5], [0, 3, 4, 5], [0, 3], [2], [2]]
def kp63 : List (List Nat) := [[1], [2]]
def kp64 : List (List Nat) := [[0, 1], [0, 1, 7], [4], [0, 1, 5], [0, 1, 5, 14], [0, 1, 5, 14, 15], [4], [0, 1, 5, 14, 19], [4], [0, 1, 5, 14, 24], [4], [0, 1, 5, 14, 33], [4], [0, 1, 5, 14, 43], [4], [0, 1, 5, 14, 54], [4], [0, 1, 5, 14, 64], [4], [0, 1, 14, 74], [0, 1, 14, 74], [4], [0, 1, 14, 87], [4], [0, 1, 14, 97], [4], [0, 1, 114], [4], [4]]
def kp65 : List (List Nat) := [[0, 1], [0, 1, 8], [0, 1, 8, 9], [0, 1, 8, 9], [0, 1, 5], [0, 1, 5, 6], [0, 1, 5, 6, 21], [0, 1, 5, 6], [5, 6], [4], [0, 1, 8, 36], [4], [0, 1, 8, 43], [4], [0, 1, 8, 53], [4], [0, 1, 63], [0, 1, 66], [4], [4]]
def kp66 : List (List Nat) := [[1, 2], [1, 2, 5], [1, 2, 5], [1, 2, 5, 6], [1, 2, 5, 6, 13], [1, 2, 5, 6], [1, 2, 5, 6], [1, 2, 5, 6], [4]]
def kp67 : List (List Nat) := [[0, 1], [0, 1, 5], [0, 1, 5, 6], [0, 1, 5, 6, 11], [0, 1, 5, 6], [0, 1, 5, 6], [4]]
def kp68 : List (List Nat) := [[0, 1], [0, 1, 6], [4], [4]]
def kp69 : List (List Nat) := [[0], [2]]
def kp70 : List (List Nat) := [[0], [0, 3], [0, 3, 10], [0, 3, 10, 11], [2], [0, 3, 10, 22], [2], [0, 3, 10, 30], [2], [0, 3, 10, 38], [2], [0, 3, 10, 47], [2], [0, 3, 10, 59], [0, 3, 4], [0, 3, 4, 5], [0, 3, 4, 5, 65], [0, 3, 4, 5], [0, 3, 4, 5], [2], [0, 3, 86], [2], [2]]
def kp71 : List (List Nat) := [[0, 1, 2, 3, 8], [0, 1, 2, 3, 8, 9], [0, 1, 2, 3, 8, 9, 10], [0, 1, 2, 3, 8, 9, 10, 23], [], [0, 1, 2, 3, 8, 9, 10, 29], [], [0, 1, 2, 3, 8, 9, 10, 35], [0, 1, 2, 3, 8, 9, 10], [0, 1, 2, 3, 8, 9, 10], [0, 1, 2, 3, 8, 9, 10, 11, 12], [0, 1, 2, 3, 8, 9, 10, 11, 12, 50], [0, 1, 2, 3, 8, 9, 10, 11], [0, 1, 2, 3, 8, 9, 10, 11], [0, 1, 2, 3, 8, 9, 10, 11, 12], [0, 1, 2, 3, 8, 9, 10, 11, 68], [0, 1, 2, 3, 8, 9, 10, 11, 72], [0, 1, 2, 3, 8, 9, 10, 11, 87], [0, 2, 3, 8, 9, 13], [0, 1, 2, 3, 8, 9], [0, 1, 2, 3, 10, 14, 15], [0, 1, 2, 3, 9, 10, 14], [0, 1, 2, 3, 9, 10, 14, 16, 17], [0, 1, 2, 3, 9, 14, 16, 17, 18], [0, 1, 2, 3, 9, 14, 16, 17, 18, 113], [0, 1, 2, 3, 8, 9, 14], [0, 2, 3, 8, 9, 14], [0, 1, 2, 3, 8, 9], [0, 1, 2, 3, 8, 9, 14], [0, 1, 3, 8, 9, 14], [0, 1, 2, 3, 8, 9]]
def kp72 : List (List Nat) := [[0], [2], [2]]
def kp73 : List (List Nat) := [[0, 1, 3], [0, 1, 3, 8], [0, 1, 3], [0, 1, 3, 18]]
def kp74 : List (List Nat) := [[0], [0, 4], [0, 4, 5], [2], [0, 4, 11], [2], [0, 17], [0, 20], [2], [2]]
def kp75 : List (List Nat) := [[0, 1], [0, 1, 6], [0, 1, 6, 7], [4], [0, 1, 18], [4], [4]]
def kp76 : List (List Nat) := [[0, 1, 2, 3], [0, 1, 2, 3, 9], [0, 3, 9, 10], [0, 3, 9, 10, 21], [0, 3, 9, 10], [0, 3, 9, 10], [8]]
def kp77 : List (List Nat) := [[0, 1], [4]]
def kp78 : List (List Nat) := [[0], [2]]
def kp79 : List (List Nat) := [[0, 1, 2, 6], [0, 1, 2, 6, 12], [0, 1, 2, 6], [0, 1, 2, 6, 7], [0, 1, 2, 6, 7, 30], [0, 1, 2, 6, 7], [0, 1, 2, 6, 7]]
def kp80 : List (List Nat) := [[0, 1, 2, 6], [0, 1, 2, 6, 7], [0, 6, 7, 8], [0, 6, 7, 8, 9], [0, 6, 7, 8, 9, 19], [0, 6, 7, 8, 9], [0, 6, 7, 8, 9], [0, 6, 7, 10], [0, 6, 7, 10, 30], [0, 6, 7, 10], [0, 6, 7, 10], [0, 6, 7, 10]]
def kp81 : List (List Nat) := [[0, 1, 6], [0, 1, 6, 15], [0, 1, 6, 7], [0, 1, 6, 7, 8], [0, 1, 6, 7, 8, 9], [0, 1, 6, 7, 8, 9, 33], [0, 1, 6, 7, 8, 9], [0, 1, 6, 7, 8, 9, 10], [0, 1, 6, 7, 8, 9, 10, 43], [0, 1, 6, 7, 8, 9, 10], [0, 1, 6, 7, 8, 9]]
def kp82 : List (List Nat) := [[0, 1, 2], [0, 1, 8], [0, 1, 8, 9], [0, 1, 8, 9, 10], [0, 1, 8, 9, 10, 11], [0, 8, 9, 10, 11, 12], [0, 8, 9, 10, 11, 12, 32], [0, 9, 10, 11, 12, 34], [0, 9, 10, 11, 12], [0, 9, 10, 11, 12], [0, 9, 10, 11, 12], [9, 11], [11, 49], [6, 7], [11, 49, 51], [6, 7], [11, 54], [6, 7]]
def kp83 : List (List Nat) := [[0, 2, 6], [0, 6, 7], [0, 6, 7, 13], [0, 6, 7], [0, 6, 7], [0, 6, 7]]
def kp84 : List (List Nat) := [[0, 1, 2], [0, 1, 2, 7], [0, 1, 2, 7, 8], [0, 1, 2, 7, 8, 14], [0, 1, 2, 7, 8], [0, 1, 2, 7, 8, 32], [0, 1, 2, 7, 8], [0, 1, 2, 7, 8, 37], [6], [0, 1, 2, 7, 8, 41], [6], [0, 1, 2, 7, 8], [0, 1, 2, 7, 8, 61], [0, 1, 2, 7, 8, 9], [0, 1, 2, 7, 8, 9, 65], [0, 1, 2, 7, 8, 9], [0, 1, 2, 7, 8, 9, 78], [0, 1, 2, 7, 8, 9], [0, 1, 2, 7, 8, 98], [0, 1, 2, 7, 8, 10], [0, 1, 2, 7, 8, 10, 103], [0, 1, 2, 7, 8, 10], [0, 1, 2, 7, 8, 10, 116], [0, 1, 2, 7, 8, 10], [6]]
def kp85 : List (List Nat) := [[0, 1], [4]]
def kp86 : List (List Nat) := [[0, 1, 2, 3], [0, 1, 2], [0, 1, 9, 10], [0, 1, 9, 10, 43], [0, 1, 9, 10], [0, 1, 9, 10, 59], [0, 1, 9, 10], [0, 1, 9, 10, 64], [0, 1, 9, 10], [0, 1, 9, 10], [0, 1, 9, 10], [8]]
def kp87 : List (List Nat) := [[0, 1, 2, 3], [0, 1, 2], [0, 1, 10, 11], [0, 1, 10, 11, 43], [0, 1, 10, 11], [0, 1, 10, 11, 60], [0, 1, 10, 11], [0, 1, 10, 11, 65], [11], [8, 9], [0, 1, 10, 11], [0, 1, 10, 11], [0, 1, 10, 11], [0, 1, 10, 11, 112], [0, 1, 10, 11], [0, 1, 10, 11, 129], [0, 1, 10, 11], [0, 1, 10, 11, 134], [0, 1, 10, 11], [0, 1, 10, 11], [0, 1, 10, 11], [11], [8, 9]]
def kp88 : List (List Nat) := [[0, 2], [0, 2, 4], [0], [0, 2], [0, 2, 8], [0, 2], [0, 2], [2]]
def kp89 : List (List Nat) := [[0, 2], [0, 2, 4], [0], [0, 2], [0, 2, 8], [0, 2], [0, 2], [0, 2, 14], [0, 2], [0, 2], [2]]
def kp90 : List (List Nat) := [[0], [2]]
def kp91 : List (List Nat) := [[0], [2]]
def kp92 : List (List Nat) := [[0], [2]]
def kp93 : List (List Nat) := [[0, 2, 3, 8], [0, 2, 3, 8, 9], [0, 2, 3, 8, 9, 16], [0, 2, 3, 8, 9, 36], [0, 2, 3, 8, 9], [0, 2, 3, 8, 9, 52], [0, 2, 3, 9], [0, 2, 3, 8]]
def kp94 : List (List Nat) := [[0], [2]]
def kp95 : List (List Nat) := [[0], [0], [0], [0], [2]]
def kp96 : List (List Nat) := [[0, 1, 2], [6]]
def kp97 : List (List Nat) := [[0, 1, 2, 3, 4], [0, 1, 2, 3, 4], [0, 1, 2, 4], [2], [10]]
def kp98 : List (List Nat) := [[0], [2]]
def kp99 : List (List Nat) := [[0, 1, 2, 3], [1, 2, 3, 18], [1, 2], [8, 9], [8, 9]]
def keepT : List (List (List Nat)) := [[], [], [], kp3, kp4, kp5, kp6, kp7, kp8, kp9, kp10, kp11, kp12, kp13, kp14, kp15, kp16, kp17, kp18, kp19, kp20, kp21, kp22, kp23, kp24, kp25, kp26, kp27, kp28, kp29, kp30, kp31, kp32, kp33, kp34, kp35, kp36, kp37, kp38, kp39, kp40, kp41, kp42, kp43, kp44, kp45, kp46, kp47, kp48, kp49, kp50, kp51, kp52, kp53, kp54, kp55, kp56, kp57, kp58, kp59, kp60, kp61, kp62, kp63, kp64, kp65, kp66, kp67, kp68, kp69, kp70, kp71, kp72, kp73, kp74, kp75, kp76, kp77, kp78, kp79, kp80, kp81, kp82, kp83, kp84, kp85, kp86, kp87, kp88, kp89, kp90, kp91, kp92, kp93, kp94, kp95, kp96, kp97, kp98, kp99, [], [], [], [], [], [], [], [], [], [], [], [], [], [], [], []]
def refT : List (List Nat) := [[], [], [], [], [], [], [], [], [], [], [], [], [], [], [], [], [], [], [], [], [], [], [], [], [], [], [0], [0], [], [], [], [], [], [], [], [], [], [], [], [], [], [], [], [], [], [], [], [], [], [], [], [], [], [], [], [], [], [], [], [], [], [0]]
def moveT : List (List Nat) := [[], [], [], [], [], [], [], [], [], [], [], [], [], [], [], [], [], [], [], [], [], [], [], [], [], [], [], [], [], [], [], [], [], [], [], [], [], [], [], [], [], [], [], [], [], [], [], [0], [], [], [0], [], [], [], [], [], [], [], [], [], [], [], [0]]
def fuseT : List (List Nat) := []
def attT (f d : Nat) : List Nat := List.range 200
def bownT : List (List Nat) := []
def truncT : List (List Nat) := [[], [], [], [], [], [], [], [], [], [], [], [], [], [], [], [], [], [], [], [], [], [], [], [20]]
noncomputable def adv : Adv := ⟨fun f r => (keepT.getD f []).getD r [], fun f => moveT.getD f [], fun f => refT.getD f [], attT, fun t => (bownT.getD t []), fun f r => (fuseT.getD f []).getD r 0, fun f d => mem? d (truncT.getD f [])⟩
noncomputable def X0 : Ctx := ⟨Try.prog, adv, fun f => bif Nat.beq f 62 then some Prim.slices_Compact else bif Nat.beq f 61 then some Prim.slices_Sort else none, fun g => none, fun g => false⟩

abbrev S.laws_szEdge : Sig := sg 45 [pAgg [pS, pS], pI] [] (ρ := Int) fun r => ([[D.int IntKind.i64 r]], [])
abbrev S.laws_szEdgeS : Sig := sg 20 [pL false 2, pI] [] (ρ := Int) fun r => ([[D.int IntKind.i64 r]], [])
abbrev S.laws_toEdge : Sig := sg 48 [pAgg [pS, pS]] [] (ρ := List UInt8 × List UInt8) fun r => ([[D.str r.fst, D.str r.snd]], [])
abbrev S.laws_toEdgeS : Sig := sg 22 [pL false 2] [] (ρ := List Row) fun r => ([[D.sl true 2 r]], [])
abbrev S.spec_l23Put : Sig := sg 47 [pL true 1, pS] [] (ρ := List Row) fun r => ([[D.sl true 1 r]], [])
abbrev S.spec_l3Find : Sig := sg 46 [pL false 1, pS] [] (ρ := Int) fun r => ([[D.int IntKind.i64 r]], [])
abbrev S.spec_Reached : Sig := sg 21 [pL false 2, pS] [] (ρ := List Row) fun r => ([[D.sl true 1 r]], [])
abbrev S.slices_Index : Sig := sg 60 [pL false 1, pS] [] (ρ := Int) fun r => ([[D.int IntKind.i64 r]], [])
abbrev S.slices_Contains : Sig := sg 49 [pL false 1, pS] [] (ρ := Bool) fun r => ([[D.bool r]], [])
abbrev S.slices_Sort : Sig := sg 61 [pO 100000 0] [cA false true 0 1] (ρ := List Row) fun r => ([], [Cell.arr false true 0 1 r])
abbrev S.slices_Compact : Sig := sg 62 [pL true 1] [] (ρ := List Row) fun r => ([[D.sl true 1 r]], [])
abbrev S.impl_once : Sig := sg 50 [pL true 1] [] (ρ := List Row) fun r => ([[D.sl true 1 r]], [])
abbrev S.impl_Reached : Sig := sg 23 [pL false 2, pS] [] (ρ := List Row) fun r => ([[D.sl true 1 r]], [])
abbrev S.laws_eqStringS : Sig := sg 24 [pL false 1, pL false 1] [] (ρ := Bool) fun r => ([[D.bool r]], [])
abbrev S.laws_eqEdge : Sig := sg 51 [pAgg [pS, pS], pAgg [pS, pS]] [] (ρ := Bool) fun r => ([[D.bool r]], [])
abbrev S.laws_eqEdgeS : Sig := sg 25 [pL false 2, pL false 2] [] (ρ := Bool) fun r => ([[D.bool r]], [])
abbrev S.laws_markText : Sig := sg 52 [pI] [] (ρ := List UInt8) fun r => ([[D.str r]], [])
abbrev S.laws_markEdgeS : Sig := sg 26 [pO 100000 0, pI] [cA false true 0 2] (ρ := Int × List Row) fun r => ([[D.int IntKind.i64 r.fst]], [Cell.arr false true 0 2 r.snd])
abbrev S.laws_markStringS : Sig := sg 27 [pO 100000 0, pI] [cA false true 0 1] (ρ := Int × List Row) fun r => ([[D.int IntKind.i64 r.fst]], [Cell.arr false true 0 1 r.snd])
abbrev S.laws_heldStringS : Sig := sg 28 [pL false 1, pI] [] (ρ := Int) fun r => ([[D.int IntKind.i64 r]], [])
abbrev S.laws_FnExactReached : Sig := sg 4 [pL false 2, pS] [] (ρ := Bool) fun r => ([[D.bool r]], [])
/-! laws_szEdge -/
def M.laws_szEdge_C {R : Type} (a : List UInt8) (a1 : List UInt8) (left : Int) (k : Int → Option R) : Option R :=
  bif decide (IntKind.i64.wrap (left - (↑a.length : Int)) < 0) then (k (-1)) else
   (bif decide (IntKind.i64.wrap (IntKind.i64.wrap (left - (↑a.length : Int)) - (↑a1.length : Int)) < 0) then (k (-1)) else (k (IntKind.i64.wrap (IntKind.i64.wrap (left - (↑a.length : Int)) - (↑a1.length : Int)))))
def M.laws_szEdge (a : List UInt8) (a1 : List UInt8) (left : Int) : Option (Int) := M.laws_szEdge_C a a1 left some
theorem C.laws_szEdge : S.laws_szEdge.ok X0 fun x => M.laws_szEdge x.1.1.1 x.1.1.2.1 x.1.2.1 := fnS (fun x => M.laws_szEdge_C x.1.1.1 x.1.1.2.1 x.1.2.1) [] [] (by intros; simp only [M.laws_szEdge_C, nb] <;> rfl)

/-! laws_szEdgeS -/
def M.laws_szEdgeS_l5_C {R : Type} (a : List Row) (s : Int × Int) (kn : Int × Int → Option R) (ke : (Unit) ⊕ (Int × Int) → Option R) : Option R := match s with
  | (left, i) =>
    bif decide (i < (↑a.length : Int)) then
     ((idx a i).bind fun row0 =>
      ((cStr row0 0).bind fun s1 =>
       ((cStr row0 1).bind fun s2 =>
        ((M.laws_szEdge s1 s2 left).bind fun r3 => (bif decide (r3 < 0) then (ke (.inl ())) else (kn ((r3, IntKind.i64.wrap (i + 1))))))))) else (ke (.inr ((left, i))))
def M.laws_szEdgeS_l5_b (a : List Row) (s : Int × Int) := M.laws_szEdgeS_l5_C a s (fun s => some (Sum.inl s)) fun t => some (Sum.inr t)
def M.laws_szEdgeS_l5 (a : List Row) (s : Int × Int) : Option ((Unit) ⊕ (Int × Int)) := loopM (M.laws_szEdgeS_l5_b a) s
def F.laws_szEdgeS_l5 : LE X0 20 := le 5 (pSt [pAt 0 (pL false 2), pAt 1 pI, pAt 5 pI] []) (fun x => (x.1.2.1, x.1.2.2.1)) (fun x s => ((x.1.1, s.1, s.2, ()), ())) (fun x => .sum (.leaf (Unit) (fun t => (Ex.ret, { tm := [(4, V.d (D.int IntKind.i64 (-1)))], mem := [] }))) (.leaf (Int × Int) (fun t => (Ex.exit 0, { tm := [(0, V.d (D.sl false 2 x.1.1)), (1, V.d (D.int IntKind.i64 t.fst)), (5, V.d (D.int IntKind.i64 t.snd)), (15, V.d (D.bool false))], mem := [] })))) (fun x => M.laws_szEdgeS_l5_C x.1.1) [fe C.laws_szEdge] [] (by rintro _ _ ⟨_, _⟩ _ _ <;> simp only [M.laws_szEdgeS_l5_C, nb] <;> rfl)
def M.laws_szEdgeS_C {R : Type} (a : List Row) (left : Int) (k : Int → Option R) : Option R :=
  bif decide (IntKind.i64.wrap (left - (↑a.length : Int)) < 0) then (k (-1)) else
   ((M.laws_szEdgeS_l5 a ((IntKind.i64.wrap (left - (↑a.length : Int)), 0))).bind fun u6 =>
   sumE u6 (fun t4 => (k (-1))) fun u7 =>
    letE u7 fun t5 => (k t5.fst))
def M.laws_szEdgeS (a : List Row) (left : Int) : Option (Int) := M.laws_szEdgeS_C a left some
theorem C.laws_szEdgeS : S.laws_szEdgeS.ok X0 fun x => M.laws_szEdgeS x.1.1 x.1.2.1 := fnS (fun x => M.laws_szEdgeS_C x.1.1 x.1.2.1) [] [F.laws_szEdgeS_l5] (by intros; simp only [M.laws_szEdgeS_C, nb] <;> rfl)

/-! laws_toEdge -/
def M.laws_toEdge_C {R : Type} (a : List UInt8) (a1 : List UInt8) (k : List UInt8 × List UInt8 → Option R) : Option R :=
  k ((a, a1))
def M.laws_toEdge (a : List UInt8) (a1 : List UInt8) : Option (List UInt8 × List UInt8) := M.laws_toEdge_C a a1 some
theorem C.laws_toEdge : S.laws_toEdge.ok X0 fun x => M.laws_toEdge x.1.1.1 x.1.1.2.1 := fnS (fun x => M.laws_toEdge_C x.1.1.1 x.1.1.2.1) [] [] (by intros; simp only [M.laws_toEdge_C, nb] <;> rfl)

/-! laws_toEdgeS -/
def M.laws_toEdgeS_l3_C {R : Type} (a : List Row) (s : Int × List Row) (kn : Int × List Row → Option R) (ke : Int × List Row → Option R) : Option R := match s with
  | (i, x') =>
    bif decide (i < (↑a.length : Int)) then
     ((idx a i).bind fun row9 =>
      ((cStr row9 0).bind fun s10 =>
       ((cStr row9 1).bind fun s11 =>
        ((M.laws_toEdge s10 s11).bind fun r12 =>
         ((idx x' i).bind fun row13 =>
          (x'[i.toNat]?.bind fun row14 =>
           (kn ((IntKind.i64.wrap (i + 1), x'.set i.toNat (splice row14 0 [D.str r12.fst, D.str r12.snd])))))))))) else (ke ((i, x')))
def M.laws_toEdgeS_l3_b (a : List Row) (s : Int × List Row) := M.laws_toEdgeS_l3_C a s (fun s => some (Sum.inl s)) fun t => some (Sum.inr t)
def M.laws_toEdgeS_l3 (a : List Row) (s : Int × List Row) : Option (Int × List Row) := loopM (M.laws_toEdgeS_l3_b a) s
def F.laws_toEdgeS_l3 : LE X0 22 := le 3 (pSt [pAt 0 (pL false 2), pAt 3 (pO 300000 0), pAt 4 pI] [pAt 300000 (cA false true 0 2)]) (fun x => (x.1.2.2.1, x.2.1)) (fun x s => ((x.1.1, (), s.1, ()), (s.2, ()))) (fun x => .leaf (Int × List Row) (fun t => (Ex.exit 0, { tm := [(0, V.d (D.sl false 2 x.1.1)), (3, V.own 300000 0), (4, V.d (D.int IntKind.i64 t.fst)), (11, V.d (D.bool false))], mem := [(300000, Cell.arr false true 0 2 t.snd)] }))) (fun x => M.laws_toEdgeS_l3_C x.1.1) [fe C.laws_toEdge] [] (by rintro _ _ ⟨_, _⟩ _ _ <;> simp only [M.laws_toEdgeS_l3_C, nb] <;> rfl)
def M.laws_toEdgeS_C {R : Type} (a : List Row) (k : List Row → Option R) : Option R :=
  bif decide (0 ≤ (↑a.length : Int)) && decide ((↑a.length : Int) ≤ (↑a.length : Int)) && decide ((↑a.length : Int) * 32 ≤ 140737488355328) && decide ((↑a.length : Int) ≤ 140737488355328) then
   ((M.laws_toEdgeS_l3 a ((0, List.replicate (↑a.length : Int).toNat [D.str [], D.str []]))).bind fun t15 => (bif flatRows t15.snd then (k t15.snd) else none)) else none
def M.laws_toEdgeS (a : List Row) : Option (List Row) := M.laws_toEdgeS_C a some
theorem C.laws_toEdgeS : S.laws_toEdgeS.ok X0 fun x => M.laws_toEdgeS x.1.1 := fnS (fun x => M.laws_toEdgeS_C x.1.1) [] [F.laws_toEdgeS_l3] (by intros; simp only [M.laws_toEdgeS_C, nb] <;> rfl)

/-! spec_l23Put -/
def M.spec_l23Put_l4_C {R : Type} (s' : List UInt8) (x' : List Row) (s : Bool × Int × List Row) (kn : Bool × Int × List Row → Option R) (ke : (Unit) ⊕ (Bool × Int × List Row) → Option R) : Option R := match s with
  | (done, i, x'1) =>
    bif decide (i < (↑x'.length : Int)) then
     ((idx x' i).bind fun row21 =>
      (x'[i.toNat]?.bind fun row22 =>
       ((cStr row22 0).bind fun s23 =>
        (bif s23 == s' then (ke (.inl ())) else
         (bif !done then
          ((idx x' i).bind fun row24 =>
           (x'[i.toNat]?.bind fun row25 =>
            ((cStr row25 0).bind fun s26 =>
             (bif !(Op.bytesLess s26 s' || s26 == s') then
              (bif ((x'1.length + [[D.str s']].length) * 16).ble 140737488355328 then
               (bif (x'1.length + [[D.str s']].length).ble 140737488355328 then
                ((idx x' i).bind fun row27 =>
                 (x'[i.toNat]?.bind fun row28 =>
                  ((cStr row28 0).bind fun s29 =>
                   (bif (((x'1 ++ [[D.str s']]).length + [[D.str s29]].length) * 16).ble 140737488355328 then
                    (bif ((x'1 ++ [[D.str s']]).length + [[D.str s29]].length).ble 140737488355328 then (kn ((true, IntKind.i64.wrap (i + 1), x'1 ++ [[D.str s']] ++ [[D.str s29]]))) else none) else none)))) else none) else none) else
              ((idx x' i).bind fun row30 =>
               (x'[i.toNat]?.bind fun row31 =>
                ((cStr row31 0).bind fun s32 =>
                 (bif ((x'1.length + [[D.str s32]].length) * 16).ble 140737488355328 then
                  (bif (x'1.length + [[D.str s32]].length).ble 140737488355328 then (kn ((done, IntKind.i64.wrap (i + 1), x'1 ++ [[D.str s32]]))) else none) else none)))))))) else
          ((idx x' i).bind fun row33 =>
           (x'[i.toNat]?.bind fun row34 =>
            ((cStr row34 0).bind fun s35 =>
             (bif ((x'1.length + [[D.str s35]].length) * 16).ble 140737488355328 then
              (bif (x'1.length + [[D.str s35]].length).ble 140737488355328 then (kn ((done, IntKind.i64.wrap (i + 1), x'1 ++ [[D.str s35]]))) else none) else none))))))))) else (ke (.inr ((done, i, x'1))))
def M.spec_l23Put_l4_b (s' : List UInt8) (x' : List Row) (s : Bool × Int × List Row) := M.spec_l23Put_l4_C s' x' s (fun s => some (Sum.inl s)) fun t => some (Sum.inr t)
def M.spec_l23Put_l4 (s' : List UInt8) (x' : List Row) (s : Bool × Int × List Row) : Option ((Unit) ⊕ (Bool × Int × List Row)) := loopM (M.spec_l23Put_l4_b s' x') s
def F.spec_l23Put_l4 : LE X0 47 := le 4 (pSt [pAt 0 (pO 300000 0), pAt 1 pS, pAt 5 (pO 300001 0), pAt 6 pB, pAt 7 pI] [pAt 300000 (cA false true 0 1), pAt 300001 (cA false true 0 1)]) (fun x => (x.1.2.2.2.1, x.1.2.2.2.2.1, x.2.2.1)) (fun x s => (((), x.1.2.1, (), s.1, s.2.1, ()), (x.2.1, s.2.2, ()))) (fun x => .sum (.leaf (Unit) (fun t => (Ex.ret, { tm := [(4, V.own 300000 0)], mem := [(300000, Cell.arr false true 0 1 x.2.1)] }))) (.leaf (Bool × Int × List Row) (fun t => (Ex.exit 0, { tm := [(0, V.own 300000 0), (1, V.d (D.str x.1.2.1)), (5, V.own 300001 0), (6, V.d (D.bool t.fst)), (7, V.d (D.int IntKind.i64 t.snd.fst)), (12, V.d (D.bool false))], mem := [(300000, Cell.arr false true 0 1 x.2.1), (300001, Cell.arr false true 0 1 t.snd.snd)] })))) (fun x => M.spec_l23Put_l4_C x.1.2.1 x.2.1) [] [] (by rintro _ _ ⟨_, _, _⟩ _ _ <;> simp only [M.spec_l23Put_l4_C, nb] <;> rfl)
def M.spec_l23Put_C {R : Type} (l : List Row) (s' : List UInt8) (k : List Row → Option R) : Option R :=
  (M.spec_l23Put_l4 s' l ((false, 0, []))).bind fun u38 =>
  sumE u38 (fun t36 => (bif flatRows l then (k l) else none)) fun u39 =>
   letE u39 fun t37 =>
    (bif !t37.fst then
     (bif ((t37.snd.snd.length + [[D.str s']].length) * 16).ble 140737488355328 then
      (bif (t37.snd.snd.length + [[D.str s']].length).ble 140737488355328 then
       (bif flatRows (t37.snd.snd ++ [[D.str s']]) then (k (t37.snd.snd ++ [[D.str s']])) else none) else none) else none) else (bif flatRows t37.snd.snd then (k t37.snd.snd) else none))
def M.spec_l23Put (l : List Row) (s' : List UInt8) : Option (List Row) := M.spec_l23Put_C l s' some
theorem C.spec_l23Put : S.spec_l23Put.ok X0 fun x => M.spec_l23Put x.1.1 x.1.2.1 := fnS (fun x => M.spec_l23Put_C x.1.1 x.1.2.1) [] [F.spec_l23Put_l4] (by intros; simp only [M.spec_l23Put_C, nb] <;> rfl)

/-! spec_l3Find -/
def M.spec_l3Find_l2_C {R : Type} (l : List Row) (s' : List UInt8) (s : Int) (kn : Int → Option R) (ke : (Int) ⊕ (Int) → Option R) : Option R := match s with
  | i =>
    bif decide (i < (↑l.length : Int)) then
     ((idx l i).bind fun row43 =>
      ((cStr row43 0).bind fun s44 => (bif s44 == s' then (ke (.inl i)) else (kn (IntKind.i64.wrap (i + 1)))))) else (ke (.inr i))
def M.spec_l3Find_l2_b (l : List Row) (s' : List UInt8) (s : Int) := M.spec_l3Find_l2_C l s' s (fun s => some (Sum.inl s)) fun t => some (Sum.inr t)
def M.spec_l3Find_l2 (l : List Row) (s' : List UInt8) (s : Int) : Option ((Int) ⊕ (Int)) := loopM (M.spec_l3Find_l2_b l s') s
def F.spec_l3Find_l2 : LE X0 46 := le 2 (pSt [pAt 0 (pL false 1), pAt 1 pS, pAt 5 pI] []) (fun x => x.1.2.2.1) (fun x s => ((x.1.1, x.1.2.1, s, ()), ())) (fun x => .sum (.leaf (Int) (fun t => (Ex.ret, { tm := [(4, V.d (D.int IntKind.i64 t))], mem := [] }))) (.leaf (Int) (fun t => (Ex.exit 0, { tm := [(0, V.d (D.sl false 1 x.1.1)), (1, V.d (D.str x.1.2.1)), (5, V.d (D.int IntKind.i64 t)), (9, V.d (D.bool false))], mem := [] })))) (fun x => M.spec_l3Find_l2_C x.1.1 x.1.2.1) [] [] (by rintro _ _ _ _ _ <;> simp only [M.spec_l3Find_l2_C, nb] <;> rfl)
def M.spec_l3Find_C {R : Type} (l : List Row) (s' : List UInt8) (k : Int → Option R) : Option R :=
  (M.spec_l3Find_l2 l s' 0).bind fun u47 =>
  sumE u47 (fun t45 => (k t45)) fun u48 =>
   letE u48 fun t46 => (k (-1))
def M.spec_l3Find (l : List Row) (s' : List UInt8) : Option (Int) := M.spec_l3Find_C l s' some
theorem C.spec_l3Find : S.spec_l3Find.ok X0 fun x => M.spec_l3Find x.1.1 x.1.2.1 := fnS (fun x => M.spec_l3Find_C x.1.1 x.1.2.1) [] [F.spec_l3Find_l2] (by intros; simp only [M.spec_l3Find_C, nb] <;> rfl)

/-! spec_Reached -/
def M.spec_Reached_l6_C {R : Type} (l : List Row) (from' : List UInt8) (n' : Int) (s : Int × List Row) (kn : Int × List Row → Option R) (ke : Int × List Row → Option R) : Option R := match s with
  | (i, x') =>
    bif decide (i < (↑l.length : Int)) then
     ((idx l i).bind fun row17 =>
      ((cStr row17 0).bind fun s18 =>
       (bif s18 == from' then
        ((idx l i).bind fun row19 =>
         ((cStr row19 1).bind fun s20 =>
          (bif flatRows x' then ((M.spec_l23Put x' s20).bind fun r40 => (kn ((IntKind.i64.wrap (i + 1), r40)))) else none))) else
        ((idx l i).bind fun row41 =>
         ((cStr row41 0).bind fun s42 =>
          ((M.spec_l3Find x' s42).bind fun r49 =>
           (bif decide (r49 ≥ 0) then
            ((idx l i).bind fun row50 =>
             ((cStr row50 1).bind fun s51 =>
              (bif flatRows x' then ((M.spec_l23Put x' s51).bind fun r52 => (kn ((IntKind.i64.wrap (i + 1), r52)))) else none))) else (kn ((IntKind.i64.wrap (i + 1), x')))))))))) else (ke ((i, x')))
def M.spec_Reached_l6_b (l : List Row) (from' : List UInt8) (n' : Int) (s : Int × List Row) := M.spec_Reached_l6_C l from' n' s (fun s => some (Sum.inl s)) fun t => some (Sum.inr t)
def M.spec_Reached_l6 (l : List Row) (from' : List UInt8) (n' : Int) (s : Int × List Row) : Option (Int × List Row) := loopM (M.spec_Reached_l6_b l from' n') s
def F.spec_Reached_l6 : LE X0 21 := le 6 (pSt [pAt 0 (pL false 2), pAt 1 pS, pAt 5 (pO 300000 0), pAt 6 pI, pAt 7 pI] [pAt 300000 (cA false true 0 1)]) (fun x => (x.1.2.2.2.2.1, x.2.1)) (fun x s => ((x.1.1, x.1.2.1, (), x.1.2.2.2.1, s.1, ()), (s.2, ()))) (fun x => .leaf (Int × List Row) (fun t => (Ex.exit 2, { tm := [(0, V.d (D.sl false 2 x.1.1)), (1, V.d (D.str x.1.2.1)), (5, V.own 300000 0), (6, V.d (D.int IntKind.i64 x.1.2.2.2.1)), (7, V.d (D.int IntKind.i64 t.fst)), (18, V.d (D.bool false))], mem := [(300000, Cell.arr false true 0 1 t.snd)] }))) (fun x => M.spec_Reached_l6_C x.1.1 x.1.2.1 x.1.2.2.2.1) [fe C.spec_l23Put, fe C.spec_l3Find] [] (by rintro _ _ ⟨_, _⟩ _ _ <;> simp only [M.spec_Reached_l6_C, nb] <;> rfl)
def M.spec_Reached_l3_C {R : Type} (l : List Row) (from' : List UInt8) (s : Int × List Row) (kn : Int × List Row → Option R) (ke : Int × List Row → Option R) : Option R := match s with
  | (n', x') =>
    bif decide (n' ≤ (↑l.length : Int)) then
     ((M.spec_Reached_l6 l from' n' ((0, x'))).bind fun t53 => (kn ((IntKind.i64.wrap (n' + 1), t53.snd)))) else (ke ((n', x')))
def M.spec_Reached_l3_b (l : List Row) (from' : List UInt8) (s : Int × List Row) := M.spec_Reached_l3_C l from' s (fun s => some (Sum.inl s)) fun t => some (Sum.inr t)
def M.spec_Reached_l3 (l : List Row) (from' : List UInt8) (s : Int × List Row) : Option (Int × List Row) := loopM (M.spec_Reached_l3_b l from') s
def F.spec_Reached_l3 : LE X0 21 := le 3 (pSt [pAt 0 (pL false 2), pAt 1 pS, pAt 5 (pO 300000 0), pAt 6 pI] [pAt 300000 (cA false true 0 1)]) (fun x => (x.1.2.2.2.1, x.2.1)) (fun x s => ((x.1.1, x.1.2.1, (), s.1, ()), (s.2, ()))) (fun x => .leaf (Int × List Row) (fun t => (Ex.exit 0, { tm := [(0, V.d (D.sl false 2 x.1.1)), (1, V.d (D.str x.1.2.1)), (5, V.own 300000 0), (6, V.d (D.int IntKind.i64 t.fst)), (12, V.d (D.bool false))], mem := [(300000, Cell.arr false true 0 1 t.snd)] }))) (fun x => M.spec_Reached_l3_C x.1.1 x.1.2.1) [] [F.spec_Reached_l6] (by rintro _ _ ⟨_, _⟩ _ _ <;> simp only [M.spec_Reached_l3_C, nb] <;> rfl)
def M.spec_Reached_C {R : Type} (l : List Row) (from' : List UInt8) (k : List Row → Option R) : Option R :=
  (M.spec_Reached_l3 l from' ((0, []))).bind fun t54 => (bif flatRows t54.snd then (k t54.snd) else none)
def M.spec_Reached (l : List Row) (from' : List UInt8) : Option (List Row) := M.spec_Reached_C l from' some
theorem C.spec_Reached : S.spec_Reached.ok X0 fun x => M.spec_Reached x.1.1 x.1.2.1 := fnS (fun x => M.spec_Reached_C x.1.1 x.1.2.1) [] [F.spec_Reached_l3] (by intros; simp only [M.spec_Reached_C, nb] <;> rfl)

/-! slices_Index -/
def M.slices_Index_l2_C {R : Type} (s' : List Row) (v : List UInt8) (v7 : Int) (s : Int) (kn : Int → Option R) (ke : (Int) ⊕ (Int) → Option R) : Option R := match s with
  | v8 =>
    bif decide (v8 < v7) then
     ((idx s' v8).bind fun row63 =>
      ((cStr row63 0).bind fun s64 => (bif v == s64 then (ke (.inl v8)) else (kn (IntKind.i64.wrap (v8 + 1)))))) else (ke (.inr v8))
def M.slices_Index_l2_b (s' : List Row) (v : List UInt8) (v7 : Int) (s : Int) := M.slices_Index_l2_C s' v v7 s (fun s => some (Sum.inl s)) fun t => some (Sum.inr t)
def M.slices_Index_l2 (s' : List Row) (v : List UInt8) (v7 : Int) (s : Int) : Option ((Int) ⊕ (Int)) := loopM (M.slices_Index_l2_b s' v v7) s
def F.slices_Index_l2 : LE X0 60 := le 2 (pSt [pAt 0 (pL false 1), pAt 1 pS, pAt 7 pI, pAt 8 pI] []) (fun x => x.1.2.2.2.1) (fun x s => ((x.1.1, x.1.2.1, x.1.2.2.1, s, ()), ())) (fun x => .sum (.leaf (Int) (fun t => (Ex.ret, { tm := [(4, V.d (D.int IntKind.i64 t))], mem := [] }))) (.leaf (Int) (fun t => (Ex.exit 0, { tm := [(0, V.d (D.sl false 1 x.1.1)), (1, V.d (D.str x.1.2.1)), (7, V.d (D.int IntKind.i64 x.1.2.2.1)), (8, V.d (D.int IntKind.i64 t)), (9, V.d (D.bool false))], mem := [] })))) (fun x => M.slices_Index_l2_C x.1.1 x.1.2.1 x.1.2.2.1) [] [] (by rintro _ _ _ _ _ <;> simp only [M.slices_Index_l2_C, nb] <;> rfl)
def M.slices_Index_C {R : Type} (s' : List Row) (v : List UInt8) (k : Int → Option R) : Option R :=
  (M.slices_Index_l2 s' v ((↑s'.length : Int)) 0).bind fun u67 =>
  sumE u67 (fun t65 => (k t65)) fun u68 =>
   letE u68 fun t66 => (k (-1))
def M.slices_Index (s' : List Row) (v : List UInt8) : Option (Int) := M.slices_Index_C s' v some
theorem C.slices_Index : S.slices_Index.ok X0 fun x => M.slices_Index x.1.1 x.1.2.1 := fnS (fun x => M.slices_Index_C x.1.1 x.1.2.1) [] [F.slices_Index_l2] (by intros; simp only [M.slices_Index_C, nb] <;> rfl)

/-! slices_Contains -/
def M.slices_Contains_C {R : Type} (s' : List Row) (v : List UInt8) (k : Bool → Option R) : Option R :=
  (M.slices_Index s' v).bind fun r69 => (k (decide (r69 ≥ 0)))
def M.slices_Contains (s' : List Row) (v : List UInt8) : Option (Bool) := M.slices_Contains_C s' v some
theorem C.slices_Contains : S.slices_Contains.ok X0 fun x => M.slices_Contains x.1.1 x.1.2.1 := fnS (fun x => M.slices_Contains_C x.1.1 x.1.2.1) [fe C.slices_Index] [] (by intros; simp only [M.slices_Contains_C, nb] <;> rfl)

/-! slices_Sort (a primitive) -/
theorem C.slices_Sort : S.slices_Sort.ok X0 fun x => M.slices_Sort x.2.1 := Sig.prim (p := Prim.slices_Sort)

/-! slices_Compact (a primitive) -/
theorem C.slices_Compact : S.slices_Compact.ok X0 fun x => M.slices_Compact x.1.1 := Sig.prim (p := Prim.slices_Compact)

/-! impl_once -/
def M.impl_once_C {R : Type} (list : List Row) (k : List Row → Option R) : Option R :=
  (M.slices_Sort list).bind fun r77 =>
   (bif flatRows r77 then ((M.slices_Compact r77).bind fun r78 => (bif flatRows r78 then (k r78) else none)) else none)
def M.impl_once (list : List Row) : Option (List Row) := M.impl_once_C list some
theorem C.impl_once : S.impl_once.ok X0 fun x => M.impl_once x.1.1 := fnS (fun x => M.impl_once_C x.1.1) [fe C.slices_Sort, fe C.slices_Compact] [] (by intros; simp only [M.impl_once_C, nb] <;> rfl)

/-! impl_Reached -/
def M.impl_Reached_l6_C {R : Type} (l : List Row) (at' : List UInt8) (v21 : List Row) (v22 : Int) (s : Int × List Row × List Row) (kn : Int × List Row × List Row → Option R) (ke : Int × List Row × List Row → Option R) : Option R := match s with
  | (v23, x', x'1) =>
    bif decide (v23 < v22) then
     ((idx v21 v23).bind fun row60 =>
      ((cStr row60 0).bind fun s61 =>
       ((cStr row60 1).bind fun s62 =>
        (bif s61 == at' then
         ((M.slices_Contains x' s62).bind fun r70 =>
          (bif !r70 then
           (bif ((x'.length + [[D.str s62]].length) * 16).ble 140737488355328 then
            (bif (x'.length + [[D.str s62]].length).ble 140737488355328 then
             (bif ((x'1.length + [[D.str s62]].length) * 16).ble 140737488355328 then
              (bif (x'1.length + [[D.str s62]].length).ble 140737488355328 then (kn ((IntKind.i64.wrap (v23 + 1), x' ++ [[D.str s62]], x'1 ++ [[D.str s62]]))) else none) else none) else none) else none) else (kn ((IntKind.i64.wrap (v23 + 1), x', x'1))))) else (kn ((IntKind.i64.wrap (v23 + 1), x', x'1))))))) else (ke ((v23, x', x'1)))
def M.impl_Reached_l6_b (l : List Row) (at' : List UInt8) (v21 : List Row) (v22 : Int) (s : Int × List Row × List Row) := M.impl_Reached_l6_C l at' v21 v22 s (fun s => some (Sum.inl s)) fun t => some (Sum.inr t)
def M.impl_Reached_l6 (l : List Row) (at' : List UInt8) (v21 : List Row) (v22 : Int) (s : Int × List Row × List Row) : Option (Int × List Row × List Row) := loopM (M.impl_Reached_l6_b l at' v21 v22) s
def F.impl_Reached_l6 : LE X0 23 := le 6 (pSt [pAt 0 (pL false 2), pAt 5 (pO 300000 0), pAt 6 (pO 300001 0), pAt 7 pS, pAt 21 (pL false 2), pAt 22 pI, pAt 23 pI] [pAt 300000 (cA false true 0 1), pAt 300001 (cQ 0 1)]) (fun x => (x.1.2.2.2.2.2.2.1, x.2.1, x.2.2.1)) (fun x s => ((x.1.1, (), (), x.1.2.2.2.1, x.1.2.2.2.2.1, x.1.2.2.2.2.2.1, s.1, ()), (s.2.1, s.2.2, ()))) (fun x => .leaf (Int × List Row × List Row) (fun t => (Ex.exit 2, { tm := [(0, V.d (D.sl false 2 x.1.1)), (5, V.own 300000 0), (6, V.own 300001 0), (7, V.d (D.str x.1.2.2.2.1)), (21, V.d (D.sl false 2 x.1.2.2.2.2.1)), (22, V.d (D.int IntKind.i64 x.1.2.2.2.2.2.1)), (23, V.d (D.int IntKind.i64 t.fst)), (24, V.d (D.bool false))], mem := [(300000, Cell.arr false true 0 1 t.snd.fst), (300001, Cell.que 0 1 t.snd.snd)] }))) (fun x => M.impl_Reached_l6_C x.1.1 x.1.2.2.2.1 x.1.2.2.2.2.1 x.1.2.2.2.2.2.1) [fe C.slices_Contains] [] (by rintro _ _ ⟨_, _, _⟩ _ _ <;> simp only [M.impl_Reached_l6_C, nb] <;> rfl)
def M.impl_Reached_l2_C {R : Type} (s : (List Row × List Row × List Row) ⊕ (List Row × List UInt8 × List Row × Int × Int × Bool × List Row × List Row)) (kn : (List Row × List Row × List Row) ⊕ (List Row × List UInt8 × List Row × Int × Int × Bool × List Row × List Row) → Option R) (ke : (List Row × List Row × List Row) ⊕ (List Row × List Row × List Row) → Option R) : Option R := match s with
  | .inl ((l, x', x'1)) =>
    bif decide ((↑x'1.length : Int) > 0) then
     ((idx x'1 0).bind fun row57 =>
      (x'1[0]?.bind fun row58 =>
       ((cStr row58 0).bind fun s59 =>
        (bif true && decide (1 ≤ (↑x'1.length : Int)) then
         ((M.impl_Reached_l6 l s59 l ((↑l.length : Int)) ((0, x', List.drop 1 x'1))).bind fun t71 => (kn (.inr ((l, s59, l, (↑l.length : Int), t71.fst, false, t71.snd.fst, t71.snd.snd))))) else none)))) else (ke (.inl ((l, x', x'1))))
  | .inr ((l, at', v21, v22, v23, v24, x', x'1)) =>
    bif decide ((↑x'1.length : Int) > 0) then
     ((idx x'1 0).bind fun row72 =>
      (x'1[0]?.bind fun row73 =>
       ((cStr row73 0).bind fun s74 =>
        (bif true && decide (1 ≤ (↑x'1.length : Int)) then
         ((M.impl_Reached_l6 l s74 l ((↑l.length : Int)) ((0, x', List.drop 1 x'1))).bind fun t75 => (kn (.inr ((l, s74, l, (↑l.length : Int), t75.fst, false, t75.snd.fst, t75.snd.snd))))) else none)))) else (ke (.inr ((l, x', x'1))))
def M.impl_Reached_l2_b (s : (List Row × List Row × List Row) ⊕ (List Row × List UInt8 × List Row × Int × Int × Bool × List Row × List Row)) := M.impl_Reached_l2_C s (fun s => some (Sum.inl s)) fun t => some (Sum.inr t)
def M.impl_Reached_l2 (s : (List Row × List Row × List Row) ⊕ (List Row × List UInt8 × List Row × Int × Int × Bool × List Row × List Row)) : Option ((List Row × List Row × List Row) ⊕ (List Row × List Row × List Row)) := loopM (M.impl_Reached_l2_b) s
def F.impl_Reached_l2 : LE X0 23 := le 2 (pOr (pSt [pAt 0 (pL false 2), pAt 5 (pO 300000 0), pAt 6 (pO 300001 0)] [pAt 300000 (cA false true 0 1), pAt 300001 (cA false true 0 1)]) (pSt [pAt 0 (pL false 2), pAt 5 (pO 300000 0), pAt 6 (pO 300001 0), pAt 7 pS, pAt 21 (pL false 2), pAt 22 pI, pAt 23 pI, pAt 24 pB] [pAt 300000 (cA false true 0 1), pAt 300001 (cQ 0 1)])) (σ := (List Row × List Row × List Row) ⊕ (List Row × List UInt8 × List Row × Int × Int × Bool × List Row × List Row)) (fun x => (match x with | .inl x => .inl ((x.1.1, x.2.1, x.2.2.1)) | .inr x => .inr ((x.1.1, x.1.2.2.2.1, x.1.2.2.2.2.1, x.1.2.2.2.2.2.1, x.1.2.2.2.2.2.2.1, x.1.2.2.2.2.2.2.2.1, x.2.1, x.2.2.1)))) (fun x s => (match s with | .inl s => .inl (((s.1, (), (), ()), (s.2.1, s.2.2, ()))) | .inr s => .inr (((s.1, (), (), s.2.1, s.2.2.1, s.2.2.2.1, s.2.2.2.2.1, s.2.2.2.2.2.1, ()), (s.2.2.2.2.2.2.1, s.2.2.2.2.2.2.2, ()))))) (fun x => .sum (.leaf (List Row × List Row × List Row) (fun t => (Ex.exit 0, { tm := [(0, V.d (D.sl false 2 t.fst)), (5, V.own 300000 0), (6, V.own 300001 0), (15, V.d (D.bool false))], mem := [(300000, Cell.arr false true 0 1 t.snd.fst), (300001, Cell.arr false true 0 1 t.snd.snd)] }))) (.leaf (List Row × List Row × List Row) (fun t => (Ex.exit 0, { tm := [(0, V.d (D.sl false 2 t.fst)), (5, V.own 300000 0), (6, V.own 300001 0), (15, V.d (D.bool false))], mem := [(300000, Cell.arr false true 0 1 t.snd.fst), (300001, Cell.que 0 1 t.snd.snd)] })))) (fun x => M.impl_Reached_l2_C) [] [F.impl_Reached_l6] (by rintro _ _ (⟨_, _, _⟩ | ⟨_, _, _, _, _, _, _, _⟩) _ _ <;> simp only [M.impl_Reached_l2_C, nb] <;> rfl) (hE := by intro _ _ s _; rcases s with s | s <;> kernel_rfl)
def M.impl_Reached_C {R : Type} (l : List Row) (from' : List UInt8) (k : List Row → Option R) : Option R :=
  (M.impl_Reached_l2 (.inl ((l, [], [[D.str from']])))).bind fun u82 =>
  sumE u82 (fun t76 =>
   (bif flatRows t76.snd.fst then ((M.impl_once t76.snd.fst).bind fun r79 => (bif flatRows r79 then (k r79) else none)) else none)) fun u83 =>
   letE u83 fun t80 =>
    (bif flatRows t80.snd.fst then ((M.impl_once t80.snd.fst).bind fun r81 => (bif flatRows r81 then (k r81) else none)) else none)
def M.impl_Reached (l : List Row) (from' : List UInt8) : Option (List Row) := M.impl_Reached_C l from' some
theorem C.impl_Reached : S.impl_Reached.ok X0 fun x => M.impl_Reached x.1.1 x.1.2.1 := fnS (fun x => M.impl_Reached_C x.1.1 x.1.2.1) [fe C.impl_once] [F.impl_Reached_l2] (by intros; simp only [M.impl_Reached_C, nb] <;> rfl)

/-! laws_eqStringS -/
def M.laws_eqStringS_l4_C {R : Type} (a : List Row) (b : List Row) (s : Int) (kn : Int → Option R) (ke : (Unit) ⊕ (Int) → Option R) : Option R := match s with
  | i =>
    bif decide (i < (↑a.length : Int)) then
     ((idx a i).bind fun row85 =>
      ((cStr row85 0).bind fun s86 =>
       ((idx b i).bind fun row87 =>
        ((cStr row87 0).bind fun s88 => (bif !s86 == s88 then (ke (.inl ())) else (kn (IntKind.i64.wrap (i + 1)))))))) else (ke (.inr i))
def M.laws_eqStringS_l4_b (a : List Row) (b : List Row) (s : Int) := M.laws_eqStringS_l4_C a b s (fun s => some (Sum.inl s)) fun t => some (Sum.inr t)
def M.laws_eqStringS_l4 (a : List Row) (b : List Row) (s : Int) : Option ((Unit) ⊕ (Int)) := loopM (M.laws_eqStringS_l4_b a b) s
def F.laws_eqStringS_l4 : LE X0 24 := le 4 (pSt [pAt 0 (pL false 1), pAt 1 (pL false 1), pAt 5 pI] []) (fun x => x.1.2.2.1) (fun x s => ((x.1.1, x.1.2.1, s, ()), ())) (fun x => .sum (.leaf (Unit) (fun t => (Ex.ret, { tm := [(4, V.d (D.bool false))], mem := [] }))) (.leaf (Int) (fun t => (Ex.exit 0, { tm := [(0, V.d (D.sl false 1 x.1.1)), (1, V.d (D.sl false 1 x.1.2.1)), (5, V.d (D.int IntKind.i64 t)), (14, V.d (D.bool false))], mem := [] })))) (fun x => M.laws_eqStringS_l4_C x.1.1 x.1.2.1) [] [] (by rintro _ _ _ _ _ <;> simp only [M.laws_eqStringS_l4_C, nb] <;> rfl)
def M.laws_eqStringS_C {R : Type} (a : List Row) (b : List Row) (k : Bool → Option R) : Option R :=
  bif (↑a.length : Int) != (↑b.length : Int) then (k false) else
   ((M.laws_eqStringS_l4 a b 0).bind fun u91 =>
   sumE u91 (fun t89 => (k false)) fun u92 =>
    letE u92 fun t90 => (k true))
def M.laws_eqStringS (a : List Row) (b : List Row) : Option (Bool) := M.laws_eqStringS_C a b some
theorem C.laws_eqStringS : S.laws_eqStringS.ok X0 fun x => M.laws_eqStringS x.1.1 x.1.2.1 := fnS (fun x => M.laws_eqStringS_C x.1.1 x.1.2.1) [] [F.laws_eqStringS_l4] (by intros; simp only [M.laws_eqStringS_C, nb] <;> rfl)

/-! laws_eqEdge -/
def M.laws_eqEdge_C {R : Type} (a : List UInt8) (a1 : List UInt8) (b : List UInt8) (b1 : List UInt8) (k : Bool → Option R) : Option R :=
  bif !a == b then (k false) else (bif !a1 == b1 then (k false) else (k true))
def M.laws_eqEdge (a : List UInt8) (a1 : List UInt8) (b : List UInt8) (b1 : List UInt8) : Option (Bool) := M.laws_eqEdge_C a a1 b b1 some
theorem C.laws_eqEdge : S.laws_eqEdge.ok X0 fun x => M.laws_eqEdge x.1.1.1 x.1.1.2.1 x.1.2.1.1 x.1.2.1.2.1 := fnS (fun x => M.laws_eqEdge_C x.1.1.1 x.1.1.2.1 x.1.2.1.1 x.1.2.1.2.1) [] [] (by intros; simp only [M.laws_eqEdge_C, nb] <;> rfl)

/-! laws_eqEdgeS -/
def M.laws_eqEdgeS_l4_C {R : Type} (a : List Row) (b : List Row) (s : Int) (kn : Int → Option R) (ke : (Unit) ⊕ (Int) → Option R) : Option R := match s with
  | i =>
    bif decide (i < (↑a.length : Int)) then
     ((idx a i).bind fun row95 =>
      ((cStr row95 0).bind fun s96 =>
       ((cStr row95 1).bind fun s97 =>
        ((idx b i).bind fun row98 =>
         ((cStr row98 0).bind fun s99 =>
          ((cStr row98 1).bind fun s100 =>
           ((M.laws_eqEdge s96 s97 s99 s100).bind fun r101 => (bif !r101 then (ke (.inl ())) else (kn (IntKind.i64.wrap (i + 1))))))))))) else (ke (.inr i))
def M.laws_eqEdgeS_l4_b (a : List Row) (b : List Row) (s : Int) := M.laws_eqEdgeS_l4_C a b s (fun s => some (Sum.inl s)) fun t => some (Sum.inr t)
def M.laws_eqEdgeS_l4 (a : List Row) (b : List Row) (s : Int) : Option ((Unit) ⊕ (Int)) := loopM (M.laws_eqEdgeS_l4_b a b) s
def F.laws_eqEdgeS_l4 : LE X0 25 := le 4 (pSt [pAt 0 (pL false 2), pAt 1 (pL false 2), pAt 5 pI] []) (fun x => x.1.2.2.1) (fun x s => ((x.1.1, x.1.2.1, s, ()), ())) (fun x => .sum (.leaf (Unit) (fun t => (Ex.ret, { tm := [(4, V.d (D.bool false))], mem := [] }))) (.leaf (Int) (fun t => (Ex.exit 0, { tm := [(0, V.d (D.sl false 2 x.1.1)), (1, V.d (D.sl false 2 x.1.2.1)), (5, V.d (D.int IntKind.i64 t)), (14, V.d (D.bool false))], mem := [] })))) (fun x => M.laws_eqEdgeS_l4_C x.1.1 x.1.2.1) [fe C.laws_eqEdge] [] (by rintro _ _ _ _ _ <;> simp only [M.laws_eqEdgeS_l4_C, nb] <;> rfl)
def M.laws_eqEdgeS_C {R : Type} (a : List Row) (b : List Row) (k : Bool → Option R) : Option R :=
  bif (↑a.length : Int) != (↑b.length : Int) then (k false) else
   ((M.laws_eqEdgeS_l4 a b 0).bind fun u104 =>
   sumE u104 (fun t102 => (k false)) fun u105 =>
    letE u105 fun t103 => (k true))
def M.laws_eqEdgeS (a : List Row) (b : List Row) : Option (Bool) := M.laws_eqEdgeS_C a b some
theorem C.laws_eqEdgeS : S.laws_eqEdgeS.ok X0 fun x => M.laws_eqEdgeS x.1.1 x.1.2.1 := fnS (fun x => M.laws_eqEdgeS_C x.1.1 x.1.2.1) [] [F.laws_eqEdgeS_l4] (by intros; simp only [M.laws_eqEdgeS_C, nb] <;> rfl)

/-! laws_markText -/
def M.laws_markText_l4_C {R : Type} (s : Int × List UInt8) (kn : Int × List UInt8 → Option R) (ke : Int × List UInt8 → Option R) : Option R := match s with
  | (k', out') =>
    bif decide (k' > 0) then
     (bif ([UInt8.ofNat (IntKind.u8.wrap (IntKind.i64.wrap (48 + k'.tmod 10))).toNat].length + out'.length).ble 9223372036854775807 then
      (kn ((IntKind.i64.wrap (k'.tdiv 10), [UInt8.ofNat (IntKind.u8.wrap (IntKind.i64.wrap (48 + k'.tmod 10))).toNat] ++ out'))) else none) else (ke ((k', out')))
def M.laws_markText_l4_b (s : Int × List UInt8) := M.laws_markText_l4_C s (fun s => some (Sum.inl s)) fun t => some (Sum.inr t)
def M.laws_markText_l4 (s : Int × List UInt8) : Option (Int × List UInt8) := loopM (M.laws_markText_l4_b) s
def F.laws_markText_l4 : LE X0 52 := le 4 (pSt [pAt 0 pI, pAt 3 pS] []) (fun x => (x.1.1, x.1.2.1)) (fun x s => ((s.1, s.2, ()), ())) (fun x => .leaf (Int × List UInt8) (fun t => (Ex.exit 0, { tm := [(0, V.d (D.int IntKind.i64 t.fst)), (3, V.d (D.str t.snd)), (7, V.d (D.bool false))], mem := [] }))) (fun x => M.laws_markText_l4_C) [] [] (by rintro _ _ ⟨_, _⟩ _ _ <;> simp only [M.laws_markText_l4_C, nb] <;> rfl)
def M.laws_markText_C {R : Type} (k' : Int) (k : List UInt8 → Option R) : Option R :=
  bif decide (k' ≤ 0) then (k [109, 48]) else
   ((M.laws_markText_l4 ((k', []))).bind fun t107 => (bif (1 + t107.snd.length).ble 9223372036854775807 then (k ([109] ++ t107.snd)) else none))
def M.laws_markText (k' : Int) : Option (List UInt8) := M.laws_markText_C k' some
theorem C.laws_markText : S.laws_markText.ok X0 fun x => M.laws_markText x.1.1 := fnS (fun x => M.laws_markText_C x.1.1) [] [F.laws_markText_l4] (by intros; simp only [M.laws_markText_C, nb] <;> rfl)

/-! laws_markEdgeS -/
def M.laws_markEdgeS_l2_C {R : Type} (s : Int × Int × List Row) (kn : Int × Int × List Row → Option R) (ke : Int × Int × List Row → Option R) : Option R := match s with
  | (k', i, v) =>
    bif decide (i < (↑v.length : Int)) then
     ((M.laws_markText k').bind fun r108 =>
      ((idx v i).bind fun row109 =>
       (v[i.toNat]?.bind fun row110 =>
        ((M.laws_markText (IntKind.i64.wrap (k' + 1))).bind fun r111 =>
         ((idx (v.set i.toNat (splice row110 0 [D.str r108])) i).bind fun row112 =>
          (((v.set i.toNat (splice row110 0 [D.str r108]))[i.toNat]?).bind fun row113 =>
           (kn ((IntKind.i64.wrap (IntKind.i64.wrap (k' + 1) + 1), IntKind.i64.wrap (i + 1), (v.set i.toNat (splice row110 0 [D.str r108])).set i.toNat (splice row113 1 [D.str r111])))))))))) else (ke ((k', i, v)))
def M.laws_markEdgeS_l2_b (s : Int × Int × List Row) := M.laws_markEdgeS_l2_C s (fun s => some (Sum.inl s)) fun t => some (Sum.inr t)
def M.laws_markEdgeS_l2 (s : Int × Int × List Row) : Option (Int × Int × List Row) := loopM (M.laws_markEdgeS_l2_b) s
def F.laws_markEdgeS_l2 : LE X0 26 := le 2 (pSt [pAt 0 (pO 100000 0), pAt 1 pI, pAt 5 pI] [pAt 100000 (cA false true 0 2)]) (fun x => (x.1.2.1, x.1.2.2.1, x.2.1)) (fun x s => (((), s.1, s.2.1, ()), (s.2.2, ()))) (fun x => .leaf (Int × Int × List Row) (fun t => (Ex.exit 0, { tm := [(0, V.own 100000 0), (1, V.d (D.int IntKind.i64 t.fst)), (5, V.d (D.int IntKind.i64 t.snd.fst)), (9, V.d (D.bool false))], mem := [(100000, Cell.arr false true 0 2 t.snd.snd)] }))) (fun x => M.laws_markEdgeS_l2_C) [fe C.laws_markText] [] (by rintro _ _ ⟨_, _, _⟩ _ _ <;> simp only [M.laws_markEdgeS_l2_C, nb] <;> rfl)
def M.laws_markEdgeS_C {R : Type} (k' : Int) (c : List Row) (k : Int × List Row → Option R) : Option R :=
  (M.laws_markEdgeS_l2 ((k', 0, c))).bind fun t114 => (k ((t114.fst, t114.snd.snd)))
def M.laws_markEdgeS (k' : Int) (c : List Row) : Option (Int × List Row) := M.laws_markEdgeS_C k' c some
theorem C.laws_markEdgeS : S.laws_markEdgeS.ok X0 fun x => M.laws_markEdgeS x.1.2.1 x.2.1 := fnS (fun x => M.laws_markEdgeS_C x.1.2.1 x.2.1) [] [F.laws_markEdgeS_l2] (by intros; simp only [M.laws_markEdgeS_C, nb] <;> rfl)

/-! laws_markStringS -/
def M.laws_markStringS_l2_C {R : Type} (s : Int × Int × List Row) (kn : Int × Int × List Row → Option R) (ke : Int × Int × List Row → Option R) : Option R := match s with
  | (k', i, v) =>
    bif decide (i < (↑v.length : Int)) then
     ((M.laws_markText k').bind fun r117 =>
      ((idx v i).bind fun row118 =>
       (v[i.toNat]?.bind fun row119 =>
        (kn ((IntKind.i64.wrap (k' + 1), IntKind.i64.wrap (i + 1), v.set i.toNat (splice row119 0 [D.str r117]))))))) else (ke ((k', i, v)))
def M.laws_markStringS_l2_b (s : Int × Int × List Row) := M.laws_markStringS_l2_C s (fun s => some (Sum.inl s)) fun t => some (Sum.inr t)
def M.laws_markStringS_l2 (s : Int × Int × List Row) : Option (Int × Int × List Row) := loopM (M.laws_markStringS_l2_b) s
def F.laws_markStringS_l2 : LE X0 27 := le 2 (pSt [pAt 0 (pO 100000 0), pAt 1 pI, pAt 5 pI] [pAt 100000 (cA false true 0 1)]) (fun x => (x.1.2.1, x.1.2.2.1, x.2.1)) (fun x s => (((), s.1, s.2.1, ()), (s.2.2, ()))) (fun x => .leaf (Int × Int × List Row) (fun t => (Ex.exit 0, { tm := [(0, V.own 100000 0), (1, V.d (D.int IntKind.i64 t.fst)), (5, V.d (D.int IntKind.i64 t.snd.fst)), (9, V.d (D.bool false))], mem := [(100000, Cell.arr false true 0 1 t.snd.snd)] }))) (fun x => M.laws_markStringS_l2_C) [fe C.laws_markText] [] (by rintro _ _ ⟨_, _, _⟩ _ _ <;> simp only [M.laws_markStringS_l2_C, nb] <;> rfl)
def M.laws_markStringS_C {R : Type} (k' : Int) (c : List Row) (k : Int × List Row → Option R) : Option R :=
  (M.laws_markStringS_l2 ((k', 0, c))).bind fun t120 => (k ((t120.fst, t120.snd.snd)))
def M.laws_markStringS (k' : Int) (c : List Row) : Option (Int × List Row) := M.laws_markStringS_C k' c some
theorem C.laws_markStringS : S.laws_markStringS.ok X0 fun x => M.laws_markStringS x.1.2.1 x.2.1 := fnS (fun x => M.laws_markStringS_C x.1.2.1 x.2.1) [] [F.laws_markStringS_l2] (by intros; simp only [M.laws_markStringS_C, nb] <;> rfl)

/-! laws_heldStringS -/
def M.laws_heldStringS_l2_C {R : Type} (a : List Row) (s : Int × Int) (kn : Int × Int → Option R) (ke : (Unit) ⊕ (Int × Int) → Option R) : Option R := match s with
  | (k', i) =>
    bif decide (i < (↑a.length : Int)) then
     ((idx a i).bind fun row122 =>
      ((cStr row122 0).bind fun s123 =>
       ((M.laws_markText k').bind fun r124 =>
        (bif !s123 == r124 then (ke (.inl ())) else (kn ((IntKind.i64.wrap (k' + 1), IntKind.i64.wrap (i + 1)))))))) else (ke (.inr ((k', i))))
def M.laws_heldStringS_l2_b (a : List Row) (s : Int × Int) := M.laws_heldStringS_l2_C a s (fun s => some (Sum.inl s)) fun t => some (Sum.inr t)
def M.laws_heldStringS_l2 (a : List Row) (s : Int × Int) : Option ((Unit) ⊕ (Int × Int)) := loopM (M.laws_heldStringS_l2_b a) s
def F.laws_heldStringS_l2 : LE X0 28 := le 2 (pSt [pAt 0 (pL false 1), pAt 1 pI, pAt 5 pI] []) (fun x => (x.1.2.1, x.1.2.2.1)) (fun x s => ((x.1.1, s.1, s.2, ()), ())) (fun x => .sum (.leaf (Unit) (fun t => (Ex.ret, { tm := [(4, V.d (D.int IntKind.i64 (-1)))], mem := [] }))) (.leaf (Int × Int) (fun t => (Ex.exit 0, { tm := [(0, V.d (D.sl false 1 x.1.1)), (1, V.d (D.int IntKind.i64 t.fst)), (5, V.d (D.int IntKind.i64 t.snd)), (9, V.d (D.bool false))], mem := [] })))) (fun x => M.laws_heldStringS_l2_C x.1.1) [fe C.laws_markText] [] (by rintro _ _ ⟨_, _⟩ _ _ <;> simp only [M.laws_heldStringS_l2_C, nb] <;> rfl)
def M.laws_heldStringS_C {R : Type} (a : List Row) (k' : Int) (k : Int → Option R) : Option R :=
  (M.laws_heldStringS_l2 a ((k', 0))).bind fun u127 =>
  sumE u127 (fun t125 => (k (-1))) fun u128 =>
   letE u128 fun t126 => (k t126.fst)
def M.laws_heldStringS (a : List Row) (k' : Int) : Option (Int) := M.laws_heldStringS_C a k' some
theorem C.laws_heldStringS : S.laws_heldStringS.ok X0 fun x => M.laws_heldStringS x.1.1 x.1.2.1 := fnS (fun x => M.laws_heldStringS_C x.1.1 x.1.2.1) [] [F.laws_heldStringS_l2] (by intros; simp only [M.laws_heldStringS_C, nb] <;> rfl)

/-! laws_FnExactReached -/
def M.laws_FnExactReached_C {R : Type} (aL : List Row) (aFrom : List UInt8) (k : Bool → Option R) : Option R :=
  bif decide ((↑aFrom.length : Int) > 1048576) then (k true) else
   ((M.laws_szEdgeS aL 1048576).bind fun r8 =>
    (bif decide (r8 < 0) then (k true) else
     ((M.laws_toEdgeS aL).bind fun r16 =>
      ((M.spec_Reached r16 aFrom).bind fun r55 =>
       (bif [[D.sl true 1 r55]].all pureRow then
        ((M.laws_toEdgeS aL).bind fun r56 =>
         ((M.impl_Reached r56 aFrom).bind fun r84 =>
          (bif [[D.sl true 1 r84]].all pureRow then
           ((M.laws_eqStringS r84 r55).bind fun r93 =>
            (bif !r93 then (k false) else
             ((M.laws_toEdgeS aL).bind fun r94 =>
              ((M.laws_eqEdgeS r56 r94).bind fun r106 =>
               (bif !r106 then (k false) else
                ((M.laws_markEdgeS 1 r56).bind fun r115 =>
                 (bif decide (r115.fst < 0) then (k false) else
                  ((M.laws_eqStringS r84 r55).bind fun r116 =>
                   (bif !r116 then (k false) else
                    ((M.laws_markStringS 1 r84).bind fun r121 =>
                     ((M.laws_heldStringS r121.snd 1).bind fun r129 =>
                      (bif decide (r129 < 0) then (k false) else
                       (bif r129 != r121.fst then (k false) else
                        ((M.laws_toEdgeS aL).bind fun r130 =>
                         ((M.impl_Reached r130 aFrom).bind fun r131 =>
                          (bif [[D.sl true 1 r131]].all pureRow then
                           ((M.laws_eqStringS r131 r55).bind fun r132 =>
                            (bif !r132 then (k false) else
                             ((M.laws_heldStringS r121.snd 1).bind fun r133 =>
                              (bif decide (r133 < 0) then (k false) else (bif r133 != r121.fst then (k false) else (k true)))))) else none)))))))))))))))) else none))) else none)))))
def M.laws_FnExactReached (aL : List Row) (aFrom : List UInt8) : Option (Bool) := M.laws_FnExactReached_C aL aFrom some
theorem C.laws_FnExactReached : S.laws_FnExactReached.ok X0 fun x => M.laws_FnExactReached x.1.1 x.1.2.1 := fnS (fun x => M.laws_FnExactReached_C x.1.1 x.1.2.1) [fe C.laws_szEdgeS, fe C.laws_toEdgeS, fe C.spec_Reached, fe C.impl_Reached, fe C.laws_eqStringS, fe C.laws_eqEdgeS, fe C.laws_markEdgeS, fe C.laws_markStringS, fe C.laws_heldStringS] [] (by intros; simp only [M.laws_FnExactReached_C, nb] <;> rfl)


end
end Go.Proofs.Ytodbelembghegaa
