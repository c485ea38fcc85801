import Derived.Test.YtpcdaeebbpedoaaGreatDoorVm4
import Derived.Test.YtpcdaeebbpedoaaGreatDoorProg
import Derived.Test.YtpcdaeebbpedoaaGreatDoorPPrim
namespace Go.Proofs.YtpcdaeebbpedoaaGreatDoor
open Go Go.Vm
set_option linter.unusedVariables false
set_option linter.unusedSimpArgs false
noncomputable section
def kp3 : List (List Nat) := [[0], [0, 3], [0, 3], [0, 15], [2], [0, 4], [0, 4, 5], [0, 4, 5, 6], [0, 4, 5, 6, 26], [2], [0, 4, 5, 6, 31], [2], [0, 4, 5, 6, 7], [0, 4, 6, 7], [0, 4, 6, 42], [2], [0, 4, 6, 8], [0, 4, 6, 8], [0, 4, 6, 8, 9], [0, 4, 6, 8, 9], [0, 4, 6, 8, 9, 50], [2], [0, 4, 6, 8, 53], [2], [4, 6, 8, 10], [6, 8, 60], [2], [6, 8, 9], [8, 9], [8, 9, 65], [2], [68], [2], [2]]
def kp4 : List (List Nat) := [[0, 1], [0, 1], [0, 1, 11], [4], [0, 1, 5], [0, 1, 5, 15], [0, 1, 5], [0, 1, 5], [0, 1, 5, 25], [4], [4]]
def kp5 : List (List Nat) := [[0], [0, 9], [2], [3], [3, 4], [3, 4, 16], [3, 4], [3, 4, 5], [3, 4, 5, 6], [3, 4, 5, 6, 36], [3, 4, 5, 6], [3, 4, 5, 6], [3, 4], [2]]
def kp6 : List (List Nat) := [[0], [0, 3], [0, 3, 4], [0, 3, 4, 11], [0, 3, 4], [0, 3, 4], [2]]
def kp7 : List (List Nat) := [[0], [0, 9], [2], [0, 3, 4], [3, 4, 14, 15, 16], [3, 4, 14, 15, 16, 17], [3, 4, 6, 14, 15, 16], [3, 4, 6, 14, 15, 16, 22], [3, 4, 14, 15, 16], [3, 4, 14, 15, 16], [3, 4, 14, 15, 16], [3, 4], [2]]
def kp8 : List (List Nat) := [[0, 1], [0, 1, 10], [4], [0, 1, 5], [0, 1, 5, 14], [0, 1, 5], [0, 1, 5, 26], [4], [4]]
def kp9 : List (List Nat) := [[0, 1], [0, 1, 5], [0, 1, 5, 9], [0, 1, 5], [0, 1, 5], [0, 1, 5], [0, 1, 5], [0, 1, 5], [0, 1, 5], [0, 1, 5], [0, 1, 5], [0, 1, 5], [0, 1, 5], [4]]
def kp10 : List (List Nat) := [[0, 1], [0, 1, 5], [0, 1, 5, 9], [0, 1, 5], [0, 1, 5, 18], [4], [0, 1, 5], [0, 1, 5, 27], [4], [0, 1, 5], [0, 1, 5, 37], [4], [0, 1, 5], [0, 1, 5, 47], [4], [0, 1, 5], [0, 1, 5], [0, 1, 5, 58], [4], [4]]
def kp11 : List (List Nat) := [[1, 2], [1, 2], [1, 2, 11], [4], [1, 2], [1, 2, 18], [4], [1], [1, 24], [4], [4]]
def kp12 : List (List Nat) := [[0], [2]]
def kp13 : List (List Nat) := [[0], [0, 3], [0, 3, 4], [0, 3, 4, 5], [0, 3, 4, 5, 17], [0, 3, 4, 5], [0, 3, 4, 5], [2]]
def kp14 : List (List Nat) := [[0], [3], [3, 12], [2], [2]]
def kp15 : List (List Nat) := [[1, 2], [1, 2, 5], [1, 2, 5], [1, 2, 5, 6], [1, 2, 5, 6, 13], [1, 2, 5, 6], [1, 2, 5, 6], [1, 2, 5, 6], [4]]
def kp16 : List (List Nat) := [[1, 2], [1, 2, 3], [1, 2, 3], [1, 2, 3], [1, 2, 3], [1, 2, 3], [2, 3], [2]]
def kp17 : List (List Nat) := [[0], [2]]
def kp18 : List (List Nat) := [[0, 2], [2]]
def kp20 : List (List Nat) := [[2, 3], [4]]
def kp21 : List (List Nat) := [[0, 1], [0, 1, 5], [0, 1, 5, 6], [0, 1, 6, 11], [12], [4], [4], [0, 1, 13], [4], [0, 1, 16], [4], [19], [4], [4]]
def kp22 : List (List Nat) := [[1], [2]]
def kp23 : List (List Nat) := [[2, 3], [2, 3, 9], [4], [2, 3, 14], [4], [2, 3, 19], [4], [2, 3, 24], [4], [30], [4], [4]]
def kp24 : List (List Nat) := [[0], [0, 5], [2], [0, 3], [0, 3, 7], [0, 3], [0, 3], [2]]
def kp25 : List (List Nat) := [[0, 1], [0, 1, 5], [0, 1, 5, 9], [0, 1, 5], [0, 1, 5], [0, 1, 5], [4]]
def kp26 : List (List Nat) := [[0, 1], [0, 1, 5], [0, 1, 5, 9], [0, 1, 5], [0, 1, 5, 17], [4], [0, 1, 5], [4]]
def kp27 : List (List Nat) := [[0, 1], [1], [1, 10], [4], [4]]
def kp28 : List (List Nat) := [[0], [0, 12], [2], [0, 3], [0, 3, 16], [0, 3], [0, 3, 24], [2], [0, 3, 4], [0, 3, 4, 32], [0, 3, 4], [0, 3, 4, 53], [2], [2]]
def kp29 : List (List Nat) := [[0, 1], [0, 1, 5], [4]]
def kp30 : List (List Nat) := [[0, 1], [0, 1, 5], [0, 1, 5, 6], [0, 1, 5, 6, 13], [0, 1, 5, 6], [0, 1, 5, 6, 7], [0, 1, 5, 6, 7], [0, 1, 5, 6, 7, 8], [0, 1, 5, 6, 7, 8, 29], [0, 1, 5, 6, 7, 8], [0, 1, 5, 6, 7, 8], [0, 1, 5, 6], [4]]
def kp31 : List (List Nat) := [[0], [0, 3], [0, 3, 4], [0, 3, 4, 11], [0, 3, 4], [0, 3, 4], [2]]
def kp32 : List (List Nat) := [[0], [0, 9], [2], [0, 10, 11, 12], [0, 10, 11, 12, 13], [0, 4, 10, 11, 12], [0, 4, 10, 11, 12, 18], [2], [0, 4, 10, 11, 12, 20, 21, 22], [0, 4, 10, 11, 12, 20, 21, 22, 23], [0, 4, 5, 6, 10, 11, 12, 20, 21, 22], [0, 4, 10, 11, 12, 20, 21, 22, 35], [2], [0, 4, 10, 11, 12, 20, 21, 22], [0, 10, 11, 12], [2]]
def kp33 : List (List Nat) := [[0, 1, 4], [0, 4, 5], [0, 4, 5, 6], [0, 4, 6, 23, 24, 25], [0, 4, 6, 23, 24, 25, 26], [0, 4, 6, 8, 23, 24, 25], [0, 4, 6, 23, 24, 25], [0, 4, 6, 23, 24, 25], [4]]
def kp34 : List (List Nat) := [[0, 1, 2, 6], [0, 1, 2, 6, 7, 8], [0, 1, 2, 6, 7, 8, 13], [0, 1, 2, 6, 8], [0, 1, 2, 6, 7, 8], [0, 1, 2, 6, 7, 8], [0, 1, 2, 6], [0, 1, 2, 6, 30], [0, 1, 2, 6, 7, 8], [0, 1, 2, 6, 7, 8, 35], [0, 1, 2, 6, 8], [0, 1, 2, 6, 7, 8], [0, 1, 2, 6, 7, 8], [0, 1, 2, 6, 7, 9], [0, 1, 2, 6, 7, 9, 54], [0, 1, 2, 6], [0, 1, 2, 6]]
def kp35 : List (List Nat) := [[0], [2]]
def kp36 : List (List Nat) := [[1, 2], [1, 2, 5], [1, 5, 18, 19, 20], [1, 5, 18, 19, 20, 21], [1, 5, 7, 18, 19, 20], [1, 5, 18, 19, 20], [1, 5, 18, 19, 20], [1, 5, 18, 19, 20], [4]]
def kp37 : List (List Nat) := [[0, 1], [0, 1, 10], [4], [0, 1, 5], [0, 1, 5, 14], [0, 1, 5], [0, 1, 5, 25], [4], [4]]
def kp38 : List (List Nat) := [[0], [0, 8], [2], [0, 3, 4], [2]]
def kp39 : List (List Nat) := [[0], [0, 9], [2], [0, 3], [0, 3, 4], [0, 3, 4, 14], [0, 3, 4], [0, 3, 4, 5], [0, 3, 4, 5, 6], [0, 3, 4, 5, 6, 24], [0, 3, 4, 5, 6], [0, 3, 4, 5, 6], [0, 3, 4], [2]]
def kp40 : List (List Nat) := [[1], [1, 3, 4], [1, 3, 4, 5], [2]]
def kp41 : List (List Nat) := [[1, 2, 3], [1, 2, 3, 7], [1, 2, 3, 7, 8], [1, 2, 3, 7, 8, 18], [1, 2, 3, 7, 8, 18, 19], [1, 2, 3, 7, 8, 18, 19], [6], [1, 2, 3, 7, 8, 18, 24], [6], [1, 2, 3, 7, 8, 18, 36], [6], [1, 2, 3, 7, 8, 18, 51], [6], [1, 2, 3, 7, 8, 18, 66], [6], [1, 2, 3, 7, 8, 18, 81], [6], [1, 2, 3, 7, 8, 18, 100], [1, 2, 3, 7, 8, 18, 100], [1, 2, 3, 7, 8, 18, 100], [6], [1, 2, 3, 7, 8, 18, 105], [6], [1, 2, 3, 7, 8, 18, 109], [6], [1, 2, 7, 8, 18, 145], [6], [2, 7, 8, 18, 160], [6], [2, 174], [6], [6]]
def kp42 : List (List Nat) := [[0], [0, 4], [0, 4, 5], [0, 4, 5, 12], [0, 4, 5], [0, 4, 5, 6], [0, 4, 5, 6, 7], [0, 4, 5, 6, 7, 24], [0, 4, 5, 6, 7], [0, 4, 5, 6, 7, 41], [2, 3], [0, 4, 5, 6, 7], [0, 4, 5], [2, 3]]
def kp43 : List (List Nat) := [[0], [4], [2]]
def kp44 : List (List Nat) := [[1], [1, 3], [2], [1, 3, 5], [1, 3], [1, 3], [1, 3, 15], [1, 3], [1, 3, 29], [1, 3], [1, 3, 35], [1, 3], [2]]
def kp45 : List (List Nat) := [[1, 2, 3], [1, 2, 3, 7], [1, 2, 3, 7, 8], [1, 2, 3, 7, 8, 16], [1, 2, 3, 7, 8, 16, 17], [1, 2, 3, 7, 8, 16, 17], [6], [1, 2, 3, 7, 8, 16, 22], [6], [1, 2, 3, 7, 8, 16, 38], [1, 2, 3, 7, 8, 16, 38], [2, 8], [1, 2, 3, 7, 8, 16, 43], [2, 7, 50], [6], [2, 8], [1, 2, 3, 7, 8, 16, 52], [2, 8], [2, 3, 7, 8, 16, 56], [2, 3, 7, 8, 16, 56], [2, 3, 7, 8, 16, 56], [2, 8], [2, 3, 7, 8, 16, 60], [6], [2, 3, 7, 8, 16, 64], [2, 8], [2, 3, 7, 8, 16, 72], [2, 8], [2, 7, 8, 16, 80], [2, 83], [6], [2, 8], [2, 8, 86], [6], [2, 94], [6], [6]]
def kp46 : List (List Nat) := [[1], [1, 3], [3, 7, 8, 9], [3, 7, 8, 9, 10], [3, 5, 7, 8, 9], [3, 7, 8, 9], [3, 7, 8, 9], [2]]
def kp47 : List (List Nat) := [[0, 1, 2, 3, 8], [0, 1, 2, 3, 8, 14], [0, 1, 2, 3, 8], [0, 1, 2, 3, 8, 9], [0, 1, 2, 3, 8, 9, 34], [0, 1, 2, 3, 8, 9], [0, 1, 2, 3, 8, 9]]
def kp48 : List (List Nat) := [[0, 1, 2, 3, 4, 28], [0, 1, 3, 4, 10], [0, 1, 4, 10, 11], [0, 1, 4, 10, 11, 33], [0, 1, 4, 10, 11, 12], [0, 1, 4, 10, 11, 12, 50], [0, 1, 4, 10, 11], [0, 1, 4, 10, 11], [0, 10, 13], [0, 10, 13, 58], [0, 10, 13], [0, 10, 13], [0, 1, 2, 3, 4, 80], [0, 2, 4, 14], [0, 2, 4, 14, 15], [0, 2, 4, 14, 15, 85], [0, 2, 4, 14, 15, 16], [0, 2, 4, 14, 15, 16, 103], [0, 2, 4, 14, 15], [0, 2, 4, 14, 15], [0, 14, 17], [0, 14, 17, 110], [0, 14, 17], [0, 14, 17], [0, 1, 2, 3, 4, 18], [0, 1, 2, 3, 4, 18, 19], [0, 1, 2, 3, 4, 18, 19], [0, 1, 2, 3, 4, 18, 19, 140], [0, 1, 2, 3, 4, 18, 19, 20], [0, 1, 2, 3, 4, 18, 19, 20, 21], [0, 1, 2, 3, 4, 18, 19, 20], [0, 1, 2, 3, 4, 18, 19, 20, 21], [0, 1, 2, 3, 4, 18, 19, 20, 21, 22], [0, 1, 2, 3, 4, 18, 19, 20, 21, 22, 151], [0, 1, 2, 3, 4, 18, 19, 20, 21, 22, 23], [0, 1, 2, 3, 4, 18, 19, 20, 21, 22, 23, 171], [0, 1, 2, 3, 4, 18, 19, 20, 21, 22], [0, 1, 2, 3, 4, 18, 19, 20, 21, 22], [0, 1, 2, 3, 4, 18, 20, 24], [0, 1, 2, 3, 4, 18, 20, 24, 185], [0, 1, 3, 4, 18, 20, 24], [0, 1, 3, 4, 18, 20, 24, 199], [0, 3, 4, 18, 24], [0, 3, 4, 18, 24, 213], []]
def kp49 : List (List Nat) := [[0, 1, 2], [6]]
def kp50 : List (List Nat) := [[1], [1, 6], [1, 6, 7], [1, 6, 7], [2, 3], [1, 6, 10], [1, 6, 10], [1, 6, 10], [2, 3], [1, 6, 14], [1, 6, 14], [1, 6, 14], [1, 6, 14], [1, 6, 14], [1, 6, 14], [1, 6, 14], [1, 6, 14], [2, 3], [1, 6, 23], [1, 6, 23], [1, 6, 23], [1, 6, 23], [2, 3], [1, 6, 28], [2, 3], [1, 6, 30], [1, 4], [4, 36], [2, 3], [2, 3], [1, 6, 40], [1, 6, 40], [2, 3], [1, 6, 43], [2, 3], [1, 6, 45], [2, 3], [1, 6, 47], [1, 6, 47], [2, 3], [1, 6, 53], [2, 3], [1, 6, 63], [2, 3], [73], [2, 3], [2, 3]]
def kp51 : List (List Nat) := [[1], [1, 4], [1, 4, 5], [1, 4, 5], [2], [1, 4, 16], [2], [1, 4, 31], [2], [1, 4, 36], [2], [1, 4, 41], [2], [1, 4, 46], [2], [1, 51], [2], [2]]
def kp52 : List (List Nat) := [[1], [1, 4], [1, 4, 5], [1, 4, 5], [1, 4, 5], [1, 4, 5], [1, 4, 5], [1, 4, 5], [2], [1, 4, 20], [2], [1, 4, 31], [2], [1, 4, 42], [2], [1, 4, 53], [2], [1, 4, 64], [2], [1, 4, 74], [2], [1, 84], [2], [2]]
def kp53 : List (List Nat) := [[0], [2]]
def kp54 : List (List Nat) := [[0], [2]]
def kp55 : List (List Nat) := [[0], [2]]
def kp56 : List (List Nat) := [[0, 2, 3, 9, 30], [0, 2, 3, 9, 13, 30], [2, 3], [0, 2, 3, 4, 9, 30], [0, 2, 3, 4, 9, 17, 18, 19, 30], [0, 2, 3, 4, 9, 17, 18, 19, 20, 30], [0, 2, 3, 4, 5, 6, 9, 17, 18, 19, 30], [0, 2, 3, 4, 5, 6, 7, 9, 17, 18, 19, 30], [0, 2, 3, 4, 5, 7, 9, 17, 18, 19, 28, 30], [0, 2, 3, 4, 5, 7, 9, 17, 18, 19, 28, 30], [0, 2, 3, 4, 5, 7, 9, 17, 18, 19, 28, 30, 37], [2, 3], [0, 2, 3, 4, 5, 7, 9, 17, 18, 19, 28, 30], [0, 2, 3, 4, 9, 17, 18, 19, 30], [0, 2, 3, 4, 9, 17, 18, 19, 30], [2, 3]]
def kp57 : List (List Nat) := [[0], [2]]
def kp58 : List (List Nat) := [[1, 2], [1, 2, 4], [1, 2, 4, 5], [2], [1, 2, 4, 14], [1, 2, 4, 14], [1, 2, 4, 14], [2], [1, 2, 4, 31], [1, 2, 4, 31], [2], [1, 2, 4, 41], [2], [1, 2, 4, 50], [2], [1, 2, 4, 59], [2], [1, 2, 4, 68], [1, 2, 4, 68], [2], [1, 2, 4, 78], [2], [1, 2, 4, 97], [2], [1, 2, 107], [2], [2]]
def kp59 : List (List Nat) := [[0], [2]]
def kp60 : List (List Nat) := [[1, 2], [1, 2, 3], [1, 2, 3, 15], [1, 2, 3, 15, 16], [2, 3], [1, 2, 3, 15, 20], [1, 2, 3], [1, 2, 3], [1, 2, 3], [2, 3, 42], [2, 3], [1, 2, 3, 15, 51], [1, 2, 3, 15, 51], [2, 3], [1, 2, 3, 15, 55], [2, 3], [1, 2, 3, 15, 62], [2, 3], [1, 2, 3, 15, 66], [1, 2, 3, 15, 66], [2, 3], [1, 2, 3, 15, 71], [2, 3], [1, 2, 3, 15, 75], [2, 3], [1, 2, 3, 15, 87], [2, 3], [1, 2, 3, 90], [2, 3], [2]]
def kp61 : List (List Nat) := [[0, 1, 2], [6]]
def kp62 : List (List Nat) := [[1, 2], [1, 2, 3], [1, 2, 3, 15], [2, 3], [1, 2, 3, 15, 17], [1, 2, 3, 15, 17], [2, 3], [1, 2, 3, 15, 22], [1, 2, 3], [2, 3, 31], [2, 3], [2, 3], [1, 2, 3, 15, 36], [1, 2, 3], [2, 3, 50], [2, 3], [2, 3], [1, 2, 3, 55], [2, 3], [2]]
def kp63 : List (List Nat) := [[0], [2]]
def kp64 : List (List Nat) := [[0], [2]]
def kp65 : List (List Nat) := [[0, 2, 3, 4, 10], [0, 2, 4, 10, 11], [0, 2, 4, 10, 11, 20], [0, 2, 4, 10, 11, 23], [0, 2, 4, 10, 11], [0, 2, 4, 10, 11], [0, 2, 4, 10, 11], [0, 2, 4, 10, 11], []]
def kp66 : List (List Nat) := [[0], [3], [3, 4], [3, 4], [3, 4], [3, 4], [3, 4], [3, 4], [3, 4], [3, 4], [3, 4], [3, 4], [3, 4], [3, 4], [3, 4], [3, 4], [3, 4], [3, 4], [4], [2], [2]]
def kp67 : List (List Nat) := [[0], [2]]
def kp68 : List (List Nat) := [[0], [2]]
def kp69 : List (List Nat) := [[1], [1, 3], [1, 3, 8], [1, 3, 8, 9], [2], [1, 3, 8, 24], [2], [1, 3, 8, 35], [2], [1, 3, 8, 42], [2], [1, 8, 49], [1, 8, 49], [2], [1, 55], [2], [2]]
def kp70 : List (List Nat) := [[0], [2]]
def kp72 : List (List Nat) := [[0], [2]]
def kp73 : List (List Nat) := [[1], [1, 5], [2], [1, 7], [1, 7, 8], [2], [1, 7, 20], [2], [1, 7, 29], [2], [1, 7, 38], [2], [1, 7, 47], [1, 7, 47], [2], [1, 53], [2], [2]]
def kp74 : List (List Nat) := [[0], [2]]
def kp75 : List (List Nat) := [[0], [2]]
def kp76 : List (List Nat) := [[0], [3], [3, 4], [2], [3, 6], [2], [3, 8], [3, 8], [2], [3, 11], [3, 11], [3, 11], [3, 11], [3, 11], [3, 11], [2], [3, 18], [2], [3, 20], [3, 20], [2], [3, 23], [3, 23], [3, 23], [2], [27], [2], [2]]
def kp77 : List (List Nat) := [[0], [2]]
def kp78 : List (List Nat) := [[0, 1], [4]]
def kp79 : List (List Nat) := [[0, 1, 2, 3, 10], [0, 1, 2, 3, 10, 13], [0, 1, 2, 3, 10], [0, 1, 2, 3, 10]]
def kp80 : List (List Nat) := [[0], [0, 3], [0, 3, 7], [0, 3], [0, 3, 15], [2], [2]]
def kp81 : List (List Nat) := [[0], [3], [3, 8], [2], [2]]
def kp82 : List (List Nat) := [[0], [0, 3], [0, 3, 7], [0, 3], [0, 3, 13], [2], [2]]
def kp83 : List (List Nat) := [[0, 1], [0, 1, 9], [4], [0, 1, 5], [0, 1, 5, 16], [0, 1, 5, 6], [0, 1, 6, 29], [4], [0, 1, 5], [0, 5, 33], [4], [0, 5, 43], [0, 5, 7], [0, 5, 7, 55], [0, 5, 7], [0, 5, 7, 62], [4], [4]]
def kp84 : List (List Nat) := [[0, 1], [4]]
def kp85 : List (List Nat) := [[0, 1], [1, 5], [5, 12], [4], [4]]
def kp86 : List (List Nat) := [[0], [0, 3], [2], [0, 6], [2], [0, 14], [2], [2]]
def kp87 : List (List Nat) := [[0, 1], [0, 1, 5], [0, 1, 5, 9], [0, 1, 5], [0, 1, 5, 17], [4], [4]]
def kp88 : List (List Nat) := [[], [0]]
def kp90 : List (List Nat) := [[0], [0, 5, 6], [0, 5, 6, 7], [0, 3, 5, 6], [0, 5, 6, 14], [2], [0, 5, 6], [2]]
def kp91 : List (List Nat) := [[0], [3], [3, 8], [2], [2]]
def kp92 : List (List Nat) := [[0, 1], [4]]
def kp93 : List (List Nat) := [[0, 1], [0, 1, 17], [4], [0, 1, 5], [0, 5, 6], [0, 5, 6, 27], [0, 5, 6, 7], [0, 6, 7], [0, 5, 6], [0, 5, 40], [4], [0, 5, 8], [0, 5, 49], [0, 5, 9], [0, 5, 9, 10], [0, 5, 9, 60], [0, 5, 9], [5, 9, 11], [5, 11, 68], [4], [4]]
def kp94 : List (List Nat) := [[0, 1], [4]]
def kp95 : List (List Nat) := [[0, 1], [1, 5], [5, 12], [4], [4]]
def kp96 : List (List Nat) := [[0], [0, 3], [2], [0, 6], [2], [0, 13], [2], [2]]
def kp97 : List (List Nat) := [[0, 1], [0, 1, 7, 8], [0, 1, 7, 8, 9], [0, 1, 5, 7, 8], [0, 1, 5, 7, 8, 16], [4], [0, 1, 7, 8], [4]]
def kp98 : List (List Nat) := [[0], [2]]
def kp99 : List (List Nat) := [[0], [2]]
def kp100 : List (List Nat) := [[], [0]]
def kp101 : List (List Nat) := [[0, 1], [0, 1, 8], [0, 1], [4]]
def kp102 : List (List Nat) := [[0, 1], [0, 1, 12], [4], [4]]
def kp103 : List (List Nat) := [[0, 1, 2], [0, 1, 2, 12], [6], [0, 2, 7], [0, 2, 7, 18], [0, 2, 7], [0, 2, 7, 24], [0, 2, 7, 24, 25], [6], [0, 2, 7, 24, 30], [6], [0, 2, 7, 32], [0, 2, 7], [0, 2, 7, 39], [6], [6]]
def kp104 : List (List Nat) := [[], [0]]
def kp105 : List (List Nat) := [[0], [2]]
def kp106 : List (List Nat) := [[0], [2]]
def kp108 : List (List Nat) := [[0, 1], [0, 1, 8], [0, 1], [4]]
def kp109 : List (List Nat) := [[0, 1], [0, 1, 10], [4], [4]]
def kp110 : List (List Nat) := [[0, 1, 2], [0, 1, 2, 12], [6], [0, 2, 7], [0, 2, 7, 24], [0, 2, 7], [0, 2, 7, 27], [6], [0, 2, 7, 36], [0, 2, 7], [6]]
def kp111 : List (List Nat) := [[0], [2]]
def kp112 : List (List Nat) := [[0], [2]]
def kp113 : List (List Nat) := [[0], [2]]
def kp114 : List (List Nat) := [[0], [2]]
def keepT : List (List (List Nat)) := [[], [], [], kp3, kp4, kp5, kp6, kp7, kp8, kp9, kp10, kp11, kp12, kp13, kp14, kp15, kp16, kp17, kp18, [], kp20, kp21, kp22, kp23, kp24, kp25, kp26, kp27, kp28, kp29, kp30, kp31, kp32, kp33, kp34, kp35, kp36, kp37, kp38, kp39, kp40, kp41, kp42, kp43, kp44, kp45, kp46, kp47, kp48, kp49, kp50, kp51, kp52, kp53, kp54, kp55, kp56, kp57, kp58, kp59, kp60, kp61, kp62, kp63, kp64, kp65, kp66, kp67, kp68, kp69, kp70, [], kp72, kp73, kp74, kp75, kp76, kp77, kp78, kp79, kp80, kp81, kp82, kp83, kp84, kp85, kp86, kp87, kp88, [], kp90, kp91, kp92, kp93, kp94, kp95, kp96, kp97, kp98, kp99, kp100, kp101, kp102, kp103, kp104, kp105, kp106, [], kp108, kp109, kp110, kp111, kp112, kp113, kp114, [], [], [], [], [], [], [], [], [], [], [], [], [], [], [], [], [], [], [], [], [], [], [], [], [], [], [], [], [], [], [], []]
def refT (f : Nat) : List Nat := bif Nat.beq f 9 then [0] else bif Nat.beq f 19 then [0] else bif Nat.beq f 25 then [0] else bif Nat.beq f 34 then [0] else bif Nat.beq f 47 then [0] else bif Nat.beq f 48 then [0] else bif Nat.beq f 65 then [0] else bif Nat.beq f 79 then [0] else []
def moveT (f : Nat) : List Nat := bif Nat.beq f 36 then [1] else []
def fuseT : List (List Nat) := [[], [], [], [], [], [], [], [], [], [0, 0, 0, 0, 0, 0, 0, 0, 0, 0, 0, 0, 5]]
def attN (f : Nat) : List Nat := ([(7, [13]), (13, [26])] : List (Nat × List Nat)).foldr (fun x r => bif Nat.beq f x.1 then x.2 else r) []
def attT (f d : Nat) : List Nat := bif mem? d (attN f) then [] else List.range 200
def bownT (f : Nat) : List Nat := []
def rawT : List (List Nat) := []
def lookT (f : Nat) : List Nat := []
def truncT (f : Nat) : List Nat := []
noncomputable def adv : Adv := ⟨fun f r => (keepT.getD f []).getD r [], fun f => moveT f, fun f => refT f, attT, fun t => (bownT t), fun f r => (fuseT.getD f []).getD r 0, fun f d => mem? d (truncT f), fun f => rawT.getD f [], fun f => lookT f⟩
noncomputable def X0 : Ctx := ⟨Tryz.prog, adv, fun f => bif Nat.beq f 56 then some Prim.impl_startsOf else bif Nat.beq f 92 then some Prim.strings_Contains else none, fun g => bif Nat.beq g 2 then some signsRow else bif Nat.beq g 1 then some keywordsRow else bif Nat.beq g 0 then some builtinsRow else none, fun g => bif Nat.beq g 3 then true else false, fun g => false⟩
abbrev S.laws_szIntS : Sig := sg 27 [pL false 1, pI] [] (ρ := Int) fun r => ([[D.int IntKind.i64 r]], [])
abbrev S.laws_szNode : Sig := sg 11 [pAgg [pI, pI, pS, pS, pL false 1], pI] [] (ρ := Int) fun r => ([[D.int IntKind.i64 r]], [])
abbrev S.laws_szNodeS : Sig := sg 4 [pL false 5, pI] [] (ρ := Int) fun r => ([[D.int IntKind.i64 r]], [])
abbrev S.laws_toIntS : Sig := sg 31 [pL false 1] [] (ρ := List Row) fun r => ([[D.sl true 1 r]], [])
abbrev S.laws_toNode : Sig := sg 16 [pAgg [pI, pI, pS, pS, pL false 1]] [] (ρ := Int × Int × List UInt8 × List UInt8 × List Row) fun r => ([[D.int IntKind.i64 r.fst, D.int IntKind.i64 r.snd.fst, D.str r.snd.snd.fst, D.str r.snd.snd.snd.fst, D.sl true 1 r.snd.snd.snd.snd]], [])
abbrev S.laws_toNodeS : Sig := sg 6 [pL false 5] [] (ρ := List Row) fun r => ([[D.sl true 5 r]], [])
abbrev S.spec_l1In : Sig := sg 49 [pI, pI, pI] [] (ρ := Bool) fun r => ([[D.bool r]], [])
abbrev S.spec_l6Starts : Sig := sg 42 [pL false 5] [] (ρ := List Row × Bool) fun r => ([[D.sl true 1 r.fst], [D.bool r.snd]], [])
abbrev S.spec_ShapeOk : Sig := sg 38 [pL false 5] [] (ρ := Bool) fun r => ([[D.bool r]], [])
abbrev S.spec_DepthOf : Sig := sg 39 [pL false 5] [] (ρ := Int) fun r => ([[D.int IntKind.i64 r]], [])
abbrev S.spec_l7Many : Sig := sg 50 [pAgg [pI, pI, pS, pS, pL false 1]] [] (ρ := Int × Int) fun r => ([[D.int IntKind.i64 r.fst], [D.int IntKind.i64 r.snd]], [])
abbrev S.spec_l7IsBin : Sig := sg 66 [pI] [] (ρ := Bool) fun r => ([[D.bool r]], [])
abbrev S.spec_l7IsAssign : Sig := sg 67 [pI] [] (ρ := Bool) fun r => ([[D.bool r]], [])
abbrev S.spec_l7Op : Sig := sg 51 [pAgg [pI, pI, pS, pS, pL false 1]] [] (ρ := Bool) fun r => ([[D.bool r]], [])
abbrev S.spec_IsLetter : Sig := sg 99 [pI] [] (ρ := Bool) fun r => ([[D.bool r]], [])
abbrev S.spec_IsDigit : Sig := sg 113 [pI] [] (ρ := Bool) fun r => ([[D.bool r]], [])
abbrev S.spec_IsWordByte : Sig := sg 98 [pI] [] (ρ := Bool) fun r => ([[D.bool r]], [])
abbrev S.spec_NameShape : Sig := sg 80 [pS] [] (ρ := Bool) fun r => ([[D.bool r]], [])
abbrev S.spec_l3Words : Sig := sg 100 [] [] (ρ := List Row) fun r => ([[D.sl true 1 r]], [])
abbrev S.spec_l3Find : Sig := sg 87 [pL false 1, pS] [] (ρ := Int) fun r => ([[D.int IntKind.i64 r]], [])
abbrev S.spec_KeywordOf : Sig := sg 81 [pS] [] (ρ := Int) fun r => ([[D.int IntKind.i64 r]], [])
abbrev S.spec_l3Builtins : Sig := sg 88 [] [] (ρ := List Row) fun r => ([[D.sl true 1 r]], [])
abbrev S.spec_IsBuiltin : Sig := sg 70 [pS] [] (ρ := Bool) fun r => ([[D.bool r]], [])
abbrev S.spec_NameOk : Sig := sg 68 [pS] [] (ρ := Bool) fun r => ([[D.bool r]], [])
abbrev S.spec_l4Plain : Sig := sg 82 [pS] [] (ρ := Bool) fun r => ([[D.bool r]], [])
abbrev S.spec_l4Byte : Sig := sg 102 [pS, pI] [] (ρ := Int) fun r => ([[D.int IntKind.i64 r]], [])
abbrev S.spec_l4Digits : Sig := sg 101 [pS, pI] [] (ρ := Int) fun r => ([[D.int IntKind.i64 r]], [])
abbrev S.spec_NumEnd : Sig := sg 83 [pS, pI] [] (ρ := Int) fun r => ([[D.int IntKind.i64 r]], [])
abbrev S.spec_l4Quoted : Sig := sg 103 [pS, pI, pI] [] (ρ := Int) fun r => ([[D.int IntKind.i64 r]], [])
abbrev S.spec_StrEnd : Sig := sg 84 [pS, pI] [] (ρ := Int) fun r => ([[D.int IntKind.i64 r]], [])
abbrev S.spec_EreEnd : Sig := sg 85 [pS, pI] [] (ρ := Int) fun r => ([[D.int IntKind.i64 r]], [])
abbrev S.spec_l3Signs : Sig := sg 104 [] [] (ρ := List Row) fun r => ([[D.sl true 1 r]], [])
abbrev S.spec_SpellOf : Sig := sg 86 [pI] [] (ρ := List UInt8) fun r => ([[D.str r]], [])
abbrev S.spec_TokenOk : Sig := sg 69 [pAgg [pI, pS, pI]] [] (ρ := Bool) fun r => ([[D.bool r]], [])
abbrev S.spec_l7Text : Sig := sg 52 [pAgg [pI, pI, pS, pS, pL false 1]] [] (ρ := Bool) fun r => ([[D.bool r]], [])
abbrev S.spec_FieldsOk : Sig := sg 40 [pAgg [pI, pI, pS, pS, pL false 1]] [] (ρ := Bool) fun r => ([[D.bool r]], [])
abbrev S.spec_IsLvalue : Sig := sg 53 [pI] [] (ρ := Bool) fun r => ([[D.bool r]], [])
abbrev S.spec_IsExpr : Sig := sg 54 [pI] [] (ρ := Bool) fun r => ([[D.bool r]], [])
abbrev S.spec_IsStmt : Sig := sg 55 [pI] [] (ρ := Bool) fun r => ([[D.bool r]], [])
abbrev S.spec_l7Kid : Sig := sg 41 [pAgg [pI, pI, pS, pS, pL false 1], pI, pI] [] (ρ := Bool) fun r => ([[D.bool r]], [])
abbrev S.spec_TreeOk : Sig := sg 28 [pL false 5] [] (ρ := Bool) fun r => ([[D.bool r]], [])
abbrev S.spec_ProgramOk : Sig := sg 12 [pL false 5] [] (ρ := Bool) fun r => ([[D.bool r]], [])
abbrev S.spec_l6Shift : Sig := sg 30 [pL false 5, pI] [] (ρ := List Row) fun r => ([[D.sl true 5 r]], [])
abbrev S.spec_l6Part : Sig := sg 29 [pL false 5, pI] [] (ρ := List Row) fun r => ([[D.sl true 5 r]], [])
abbrev S.spec_l45Items : Sig := sg 13 [pL false 5] [] (ρ := List Row) fun r => ([[D.sl true 1 r]], [])
abbrev S.spec_l45Key : Sig := sg 14 [pL false 5] [] (ρ := List UInt8) fun r => ([[D.str r]], [])
abbrev S.spec_l6Make : Sig := sg 15 [pAgg [pI, pI, pS, pS, pL false 1], pL false 1] [] (ρ := List Row) fun r => ([[D.sl true 5 r]], [])
abbrev S.spec_SortFuncs : Sig := sg 5 [pL false 5] [] (ρ := List Row) fun r => ([[D.sl true 5 r]], [])
abbrev S.impl_startsOf : Sig := sg 56 [pL false 5] [] (ρ := List Row × Bool) fun r => ([[D.sl true 1 r.fst], [D.bool r.snd]], [])
abbrev S.impl_ShapeOk : Sig := sg 43 [pL false 5] [] (ρ := Bool) fun r => ([[D.bool r]], [])
abbrev S.impl_within : Sig := sg 61 [pI, pI, pI] [] (ρ := Bool) fun r => ([[D.bool r]], [])
abbrev S.impl_IsExpr : Sig := sg 57 [pI] [] (ρ := Bool) fun r => ([[D.bool r]], [])
abbrev S.impl_IsLetter : Sig := sg 106 [pI] [] (ρ := Bool) fun r => ([[D.bool r]], [])
abbrev S.impl_IsDigit : Sig := sg 114 [pI] [] (ρ := Bool) fun r => ([[D.bool r]], [])
abbrev S.impl_IsWordByte : Sig := sg 105 [pI] [] (ρ := Bool) fun r => ([[D.bool r]], [])
abbrev S.impl_NameShape : Sig := sg 90 [pS] [] (ρ := Bool) fun r => ([[D.bool r]], [])
abbrev S.slices_Index : Sig := sg 97 [pL false 1, pS] [] (ρ := Int) fun r => ([[D.int IntKind.i64 r]], [])
abbrev S.impl_KeywordOf : Sig := sg 91 [pS] [] (ρ := Int) fun r => ([[D.int IntKind.i64 r]], [])
abbrev S.slices_Contains : Sig := sg 78 [pL false 1, pS] [] (ρ := Bool) fun r => ([[D.bool r]], [])
abbrev S.impl_IsBuiltin : Sig := sg 74 [pS] [] (ρ := Bool) fun r => ([[D.bool r]], [])
abbrev S.impl_NameOk : Sig := sg 72 [pS] [] (ρ := Bool) fun r => ([[D.bool r]], [])
abbrev S.strings_Contains : Sig := sg 92 [pS, pS] [] (ρ := Bool) fun r => ([[D.bool r]], [])
abbrev S.impl_byteAt : Sig := sg 109 [pS, pI] [] (ρ := Int) fun r => ([[D.int IntKind.i64 r]], [])
abbrev S.impl_digitsEnd : Sig := sg 108 [pS, pI] [] (ρ := Int) fun r => ([[D.int IntKind.i64 r]], [])
abbrev S.impl_NumEnd : Sig := sg 93 [pS, pI] [] (ρ := Int) fun r => ([[D.int IntKind.i64 r]], [])
abbrev S.impl_quotedEnd : Sig := sg 110 [pS, pI, pI] [] (ρ := Int) fun r => ([[D.int IntKind.i64 r]], [])
abbrev S.impl_StrEnd : Sig := sg 94 [pS, pI] [] (ρ := Int) fun r => ([[D.int IntKind.i64 r]], [])
abbrev S.impl_EreEnd : Sig := sg 95 [pS, pI] [] (ρ := Int) fun r => ([[D.int IntKind.i64 r]], [])
abbrev S.impl_isKeywordKind : Sig := sg 111 [pI] [] (ρ := Bool) fun r => ([[D.bool r]], [])
abbrev S.impl_isSignKind : Sig := sg 112 [pI] [] (ρ := Bool) fun r => ([[D.bool r]], [])
abbrev S.impl_SpellOf : Sig := sg 96 [pI] [] (ρ := List UInt8) fun r => ([[D.str r]], [])
abbrev S.impl_TokenOk : Sig := sg 73 [pAgg [pI, pS, pI]] [] (ρ := Bool) fun r => ([[D.bool r]], [])
abbrev S.impl_isStep : Sig := sg 75 [pI] [] (ρ := Bool) fun r => ([[D.bool r]], [])
abbrev S.impl_OpLevel : Sig := sg 76 [pI] [] (ρ := Int) fun r => ([[D.int IntKind.i64 r]], [])
abbrev S.impl_isAssign : Sig := sg 77 [pI] [] (ρ := Bool) fun r => ([[D.bool r]], [])
abbrev S.impl_exprForm : Sig := sg 58 [pAgg [pI, pI, pS, pS, pL false 1]] [] (ρ := Bool × Bool × Bool × Int × Int) fun r => ([[D.bool r.fst, D.bool r.snd.fst, D.bool r.snd.snd.fst, D.int IntKind.i64 r.snd.snd.snd.fst, D.int IntKind.i64 r.snd.snd.snd.snd]], [])
abbrev S.impl_IsStmt : Sig := sg 59 [pI] [] (ρ := Bool) fun r => ([[D.bool r]], [])
abbrev S.impl_stmtForm : Sig := sg 60 [pAgg [pI, pI, pS, pS, pL false 1]] [] (ρ := Bool × Bool × Bool × Int × Int) fun r => ([[D.bool r.fst, D.bool r.snd.fst, D.bool r.snd.snd.fst, D.int IntKind.i64 r.snd.snd.snd.fst, D.int IntKind.i64 r.snd.snd.snd.snd]], [])
abbrev S.impl_itemForm : Sig := sg 62 [pAgg [pI, pI, pS, pS, pL false 1]] [] (ρ := Bool × Bool × Bool × Int × Int) fun r => ([[D.bool r.fst, D.bool r.snd.fst, D.bool r.snd.snd.fst, D.int IntKind.i64 r.snd.snd.snd.fst, D.int IntKind.i64 r.snd.snd.snd.snd]], [])
abbrev S.impl_FieldsOk : Sig := sg 44 [pAgg [pI, pI, pS, pS, pL false 1]] [] (ρ := Bool) fun r => ([[D.bool r]], [])
abbrev S.impl_IsLvalue : Sig := sg 63 [pI] [] (ρ := Bool) fun r => ([[D.bool r]], [])
abbrev S.impl_isItem : Sig := sg 64 [pI] [] (ρ := Bool) fun r => ([[D.bool r]], [])
abbrev S.impl_kidOk : Sig := sg 45 [pAgg [pI, pI, pS, pS, pL false 1], pI, pI] [] (ρ := Bool) fun r => ([[D.bool r]], [])
abbrev S.impl_treeAt : Sig := sg 33 [pL false 5, pI] [] (ρ := Int × Int × List UInt8 × List UInt8 × List Row) fun r => ([[D.int IntKind.i64 r.fst, D.int IntKind.i64 r.snd.fst, D.str r.snd.snd.fst, D.str r.snd.snd.snd.fst, D.sl true 5 r.snd.snd.snd.snd]], [])
abbrev S.impl_rootOf : Sig := sg 18 [pL false 5] [] (ρ := Int × Int × List UInt8 × List UInt8 × List Row) fun r => ([[D.int IntKind.i64 r.fst, D.int IntKind.i64 r.snd.fst, D.str r.snd.snd.fst, D.str r.snd.snd.snd.fst, D.sl true 5 r.snd.snd.snd.snd]], [])
abbrev S.impl_tree_depth : Sig := sg 46 [pAgg [pI, pI, pS, pS, pL false 5]] [] (ρ := Int) fun r => ([[D.int IntKind.i64 r]], [])
abbrev S.impl_TreeOk : Sig := sg 32 [pL false 5] [] (ρ := Bool) fun r => ([[D.bool r]], [])
abbrev S.impl_ProgramOk : Sig := sg 17 [pL false 5] [] (ρ := Bool) fun r => ([[D.bool r]], [])
abbrev S.cmp_isNaN : Sig := sg 35 [pS] [] (ρ := Bool) fun r => ([[D.bool r]], [])
abbrev S.cmp_Compare : Sig := sg 21 [pS, pS] [] (ρ := Int) fun r => ([[D.int IntKind.i64 r]], [])
abbrev S.impl_SortFuncs_c1 : Sig := sg 20 [pAgg [pI, pI, pS, pS, pL false 5], pAgg [pI, pI, pS, pS, pL false 5]] [] (ρ := Int) fun r => ([[D.int IntKind.i64 r]], [])
abbrev S.slices_insertionSortCmpFunc : Sig := sg 47 [pO 100000 0, pI, pI, pClo 20 [] []] [cA false false 0 5] (ρ := List Row) fun r => ([], [Cell.arr false false 0 5 r])
abbrev S.slices_swapRangeCmpFunc : Sig := sg 79 [pO 100000 0, pI, pI, pI, pClo 20 [] []] [cA false false 0 5] (ρ := List Row) fun r => ([], [Cell.arr false false 0 5 r])
abbrev S.slices_rotateCmpFunc : Sig := sg 65 [pO 100000 0, pI, pI, pI, pClo 20 [] []] [cA false false 0 5] (ρ := List Row) fun r => ([], [Cell.arr false false 0 5 r])
abbrev S.slices_symMergeCmpFunc : Sig := sg 48 [pO 100000 0, pI, pI, pI, pClo 20 [] []] [cA false false 0 5] (ρ := List Row) fun r => ([], [Cell.arr false false 0 5 r])
abbrev S.slices_stableCmpFunc : Sig := sg 34 [pO 100000 0, pI, pClo 20 [] []] [cA false false 0 5] (ρ := List Row) fun r => ([], [Cell.arr false false 0 5 r])
abbrev S.slices_SortStableFunc : Sig := sg 19 [pO 100000 0, pClo 20 [] []] [cA false false 0 5] (ρ := List Row) fun r => ([], [Cell.arr false false 0 5 r])
abbrev S.impl_tree_add : Sig := sg 36 [pAgg [pI, pI, pS, pS, pL false 5], pL true 5] [] (ρ := List Row) fun r => ([[D.sl true 5 r]], [])
abbrev S.impl_tree_list : Sig := sg 22 [pAgg [pI, pI, pS, pS, pL false 5]] [] (ρ := List Row) fun r => ([[D.sl true 5 r]], [])
abbrev S.impl_SortFuncs : Sig := sg 7 [pL false 5] [] (ρ := List Row) fun r => ([[D.sl true 5 r]], [])
abbrev S.laws_eqIntS : Sig := sg 37 [pL false 1, pL false 1] [] (ρ := Bool) fun r => ([[D.bool r]], [])
abbrev S.laws_eqNode : Sig := sg 23 [pAgg [pI, pI, pS, pS, pL false 1], pAgg [pI, pI, pS, pS, pL false 1]] [] (ρ := Bool) fun r => ([[D.bool r]], [])
abbrev S.laws_eqNodeS : Sig := sg 8 [pL false 5, pL false 5] [] (ρ := Bool) fun r => ([[D.bool r]], [])
abbrev S.laws_markText : Sig := sg 24 [pI] [] (ρ := List UInt8) fun r => ([[D.str r]], [])
abbrev S.laws_markIntS : Sig := sg 25 [pO 100000 0, pI] [cA false true 0 1] (ρ := Int × List Row) fun r => ([[D.int IntKind.i64 r.fst]], [Cell.arr false true 0 1 r.snd])
abbrev S.laws_markNodeS : Sig := sg 9 [pO 100000 0, pI] [cA false false 0 5] (ρ := Int × List Row) fun r => ([[D.int IntKind.i64 r.fst]], [Cell.arr false false 0 5 r.snd])
abbrev S.laws_heldIntS : Sig := sg 26 [pL false 1, pI] [] (ρ := Int) fun r => ([[D.int IntKind.i64 r]], [])
abbrev S.laws_heldNodeS : Sig := sg 10 [pL false 5, pI] [] (ρ := Int) fun r => ([[D.int IntKind.i64 r]], [])
abbrev S.laws_FnExactSortFuncs : Sig := sg 3 [pL false 5] [] (ρ := Bool) fun r => ([[D.bool r]], [])
def M.laws_szIntS_C {R : Type} (a : List Row) (left : Int) (k : Int → Option R) : Option R :=
  bif decide (IntKind.i64.wrap (left - (↑a.length : Int)) < 0) then (k (-1)) else (k (IntKind.i64.wrap (left - (↑a.length : Int))))
def M.laws_szIntS (a : List Row) (left : Int) : Option (Int) := M.laws_szIntS_C a left some
theorem C.laws_szIntS : S.laws_szIntS.ok X0 fun x => M.laws_szIntS x.1.1 x.1.2.1 := fnS (fun x => M.laws_szIntS_C x.1.1 x.1.2.1) [] [] (by intros; simp only [M.laws_szIntS_C, nb] <;> rfl)
def M.laws_szNode_C {R : Type} (a : Int) (a1 : Int) (a2 : List UInt8) (a3 : List UInt8) (a4 : List Row) (left : Int) (k : Int → Option R) : Option R :=
  bif decide (IntKind.i64.wrap (left - (↑a2.length : Int)) < 0) then (k (-1)) else
   (bif decide (IntKind.i64.wrap (IntKind.i64.wrap (left - (↑a2.length : Int)) - (↑a3.length : Int)) < 0) then (k (-1)) else
    ((M.laws_szIntS a4 (IntKind.i64.wrap (IntKind.i64.wrap (left - (↑a2.length : Int)) - (↑a3.length : Int)))).bind fun r6 => (bif decide (r6 < 0) then (k (-1)) else (k r6))))
def M.laws_szNode (a : Int) (a1 : Int) (a2 : List UInt8) (a3 : List UInt8) (a4 : List Row) (left : Int) : Option (Int) := M.laws_szNode_C a a1 a2 a3 a4 left some
theorem C.laws_szNode : S.laws_szNode.ok X0 fun x => M.laws_szNode x.1.1.1 x.1.1.2.1 x.1.1.2.2.1 x.1.1.2.2.2.1 x.1.1.2.2.2.2.1 x.1.2.1 := fnS (fun x => M.laws_szNode_C x.1.1.1 x.1.1.2.1 x.1.1.2.2.1 x.1.1.2.2.2.1 x.1.1.2.2.2.2.1 x.1.2.1) [fe C.laws_szIntS] [] (by intros; simp only [M.laws_szNode_C, nb] <;> rfl)
def M.laws_szNodeS_l5_C {R : Type} (a : List Row) (s : Int × Int) (kn : Int × Int → Option R) (ke : (Unit) ⊕ (Int × Int) → Option R) : Option R := match s with
  | (left, i) =>
    bif decide (i < (↑a.length : Int)) then
     ((idx a i).bind fun row0 =>
      ((cInt IntKind.i64 row0 0).bind fun n1 =>
       ((cInt IntKind.i64 row0 1).bind fun n2 =>
        ((cStr row0 2).bind fun s3 =>
         ((cStr row0 3).bind fun s4 =>
          ((cSl 1 row0 4).bind fun rows5 =>
           ((M.laws_szNode n1 n2 s3 s4 rows5 left).bind fun r7 => (bif decide (r7 < 0) then (ke (.inl ())) else (kn ((r7, IntKind.i64.wrap (i + 1)))))))))))) else (ke (.inr ((left, i))))
def M.laws_szNodeS_l5_b (a : List Row) (s : Int × Int) := M.laws_szNodeS_l5_C a s (fun s => some (Sum.inl s)) fun t => some (Sum.inr t)
def M.laws_szNodeS_l5 (a : List Row) (s : Int × Int) : Option ((Unit) ⊕ (Int × Int)) := loopM (M.laws_szNodeS_l5_b a) s
def F.laws_szNodeS_l5 : LE X0 4 := le 5 (pSt [pAt 0 (pL false 5), pAt 1 pI, pAt 5 pI] []) (fun x => (x.1.2.1, x.1.2.2.1)) (fun x s => ((x.1.1, s.1, s.2, ()), ())) (fun x => .sum (.leaf (Unit) (fun t => (Ex.ret, { tm := [(4, V.d (D.int IntKind.i64 (-1)))], mem := [] }))) (.leaf (Int × Int) (fun t => (Ex.exit 0, { tm := [(0, V.d (D.sl false 5 x.1.1)), (1, V.d (D.int IntKind.i64 t.fst)), (5, V.d (D.int IntKind.i64 t.snd)), (15, V.d (D.bool false))], mem := [] })))) (fun x => M.laws_szNodeS_l5_C x.1.1) [fe C.laws_szNode] [] (by rintro _ _ ⟨_, _⟩ _ _ <;> simp only [M.laws_szNodeS_l5_C, nb] <;> rfl)
def M.laws_szNodeS_C {R : Type} (a : List Row) (left : Int) (k : Int → Option R) : Option R :=
  bif decide (IntKind.i64.wrap (left - (↑a.length : Int)) < 0) then (k (-1)) else
   ((M.laws_szNodeS_l5 a ((IntKind.i64.wrap (left - (↑a.length : Int)), 0))).bind fun u10 =>
   sumE u10 (fun t8 => (k (-1))) fun u11 =>
    letE u11 fun t9 => (k t9.fst))
def M.laws_szNodeS (a : List Row) (left : Int) : Option (Int) := M.laws_szNodeS_C a left some
theorem C.laws_szNodeS : S.laws_szNodeS.ok X0 fun x => M.laws_szNodeS x.1.1 x.1.2.1 := fnS (fun x => M.laws_szNodeS_C x.1.1 x.1.2.1) [] [F.laws_szNodeS_l5] (by intros; simp only [M.laws_szNodeS_C, nb] <;> rfl)
def M.laws_toIntS_l3_C {R : Type} (a : List Row) (s : Int × List Row) (kn : Int × List Row → Option R) (ke : Int × List Row → Option R) : Option R := match s with
  | (i, x') =>
    bif decide (i < (↑a.length : Int)) then
     ((idx a i).bind fun row19 =>
      ((cInt IntKind.i64 row19 0).bind fun n20 =>
       ((idx x' i).bind fun row21 =>
        (x'[i.toNat]?.bind fun row22 => (kn ((IntKind.i64.wrap (i + 1), x'.set i.toNat (splice row22 0 [D.int IntKind.i64 n20])))))))) else (ke ((i, x')))
def M.laws_toIntS_l3_b (a : List Row) (s : Int × List Row) := M.laws_toIntS_l3_C a s (fun s => some (Sum.inl s)) fun t => some (Sum.inr t)
def M.laws_toIntS_l3 (a : List Row) (s : Int × List Row) : Option (Int × List Row) := loopM (M.laws_toIntS_l3_b a) s
def F.laws_toIntS_l3 : LE X0 31 := le 3 (pSt [pAt 0 (pL false 1), pAt 3 (pO 300000 0), pAt 4 pI] [pAt 300000 (cA false true 0 1)]) (fun x => (x.1.2.2.1, x.2.1)) (fun x s => ((x.1.1, (), s.1, ()), (s.2, ()))) (fun x => .leaf (Int × List Row) (fun t => (Ex.exit 0, { tm := [(0, V.d (D.sl false 1 x.1.1)), (3, V.own 300000 0), (4, V.d (D.int IntKind.i64 t.fst)), (11, V.d (D.bool false))], mem := [(300000, Cell.arr false true 0 1 t.snd)] }))) (fun x => M.laws_toIntS_l3_C x.1.1) [] [] (by rintro _ _ ⟨_, _⟩ _ _ <;> simp only [M.laws_toIntS_l3_C, nb] <;> rfl)
def M.laws_toIntS_C {R : Type} (a : List Row) (k : List Row → Option R) : Option R :=
  bif decide (0 ≤ (↑a.length : Int)) && decide ((↑a.length : Int) ≤ (↑a.length : Int)) && decide ((↑a.length : Int) * 8 ≤ 140737488355328) && decide ((↑a.length : Int) ≤ 140737488355328) then
   ((M.laws_toIntS_l3 a ((0, List.replicate (↑a.length : Int).toNat [D.int IntKind.i64 0]))).bind fun t23 => (bif flatRows t23.snd then (k t23.snd) else none)) else none
def M.laws_toIntS (a : List Row) : Option (List Row) := M.laws_toIntS_C a some
theorem C.laws_toIntS : S.laws_toIntS.ok X0 fun x => M.laws_toIntS x.1.1 := fnS (fun x => M.laws_toIntS_C x.1.1) [] [F.laws_toIntS_l3] (by intros; simp only [M.laws_toIntS_C, nb] <;> rfl)
def M.laws_toNode_C {R : Type} (a : Int) (a1 : Int) (a2 : List UInt8) (a3 : List UInt8) (a4 : List Row) (k : Int × Int × List UInt8 × List UInt8 × List Row → Option R) : Option R :=
  (M.laws_toIntS a4).bind fun r24 => (bif flatRows r24 then (k ((a, a1, a2, a3, r24))) else none)
def M.laws_toNode (a : Int) (a1 : Int) (a2 : List UInt8) (a3 : List UInt8) (a4 : List Row) : Option (Int × Int × List UInt8 × List UInt8 × List Row) := M.laws_toNode_C a a1 a2 a3 a4 some
theorem C.laws_toNode : S.laws_toNode.ok X0 fun x => M.laws_toNode x.1.1.1 x.1.1.2.1 x.1.1.2.2.1 x.1.1.2.2.2.1 x.1.1.2.2.2.2.1 := fnS (fun x => M.laws_toNode_C x.1.1.1 x.1.1.2.1 x.1.1.2.2.1 x.1.1.2.2.2.1 x.1.1.2.2.2.2.1) [fe C.laws_toIntS] [] (by intros; simp only [M.laws_toNode_C, nb] <;> rfl)
def M.laws_toNodeS_l3_C {R : Type} (a : List Row) (s : Int × List Row) (kn : Int × List Row → Option R) (ke : Int × List Row → Option R) : Option R := match s with
  | (i, x') =>
    bif decide (i < (↑a.length : Int)) then
     ((idx a i).bind fun row13 =>
      ((cInt IntKind.i64 row13 0).bind fun n14 =>
       ((cInt IntKind.i64 row13 1).bind fun n15 =>
        ((cStr row13 2).bind fun s16 =>
         ((cStr row13 3).bind fun s17 =>
          ((cSl 1 row13 4).bind fun rows18 =>
           ((M.laws_toNode n14 n15 s16 s17 rows18).bind fun r25 =>
            ((idx x' i).bind fun row26 =>
             (bif flatRows r25.snd.snd.snd.snd then
              (x'[i.toNat]?.bind fun row27 =>
               (kn ((IntKind.i64.wrap (i + 1), x'.set i.toNat (splice row27 0 [D.int IntKind.i64 r25.fst, D.int IntKind.i64 r25.snd.fst, D.str r25.snd.snd.fst, D.str r25.snd.snd.snd.fst, D.sl true 1 r25.snd.snd.snd.snd]))))) else none))))))))) else (ke ((i, x')))
def M.laws_toNodeS_l3_b (a : List Row) (s : Int × List Row) := M.laws_toNodeS_l3_C a s (fun s => some (Sum.inl s)) fun t => some (Sum.inr t)
def M.laws_toNodeS_l3 (a : List Row) (s : Int × List Row) : Option (Int × List Row) := loopM (M.laws_toNodeS_l3_b a) s
def F.laws_toNodeS_l3 : LE X0 6 := le 3 (pSt [pAt 0 (pL false 5), pAt 3 (pO 300000 0), pAt 4 pI] [pAt 300000 (cA false false 0 5)]) (fun x => (x.1.2.2.1, x.2.1)) (fun x s => ((x.1.1, (), s.1, ()), (s.2, ()))) (fun x => .leaf (Int × List Row) (fun t => (Ex.exit 0, { tm := [(0, V.d (D.sl false 5 x.1.1)), (3, V.own 300000 0), (4, V.d (D.int IntKind.i64 t.fst)), (11, V.d (D.bool false))], mem := [(300000, Cell.arr false false 0 5 t.snd)] }))) (fun x => M.laws_toNodeS_l3_C x.1.1) [fe C.laws_toNode] [] (by rintro _ _ ⟨_, _⟩ _ _ <;> simp only [M.laws_toNodeS_l3_C, nb] <;> rfl)
def M.laws_toNodeS_C {R : Type} (a : List Row) (k : List Row → Option R) : Option R :=
  bif decide (0 ≤ (↑a.length : Int)) && decide ((↑a.length : Int) ≤ (↑a.length : Int)) && decide ((↑a.length : Int) * 72 ≤ 140737488355328) && decide ((↑a.length : Int) ≤ 140737488355328) then
   ((M.laws_toNodeS_l3 a ((0, List.replicate (↑a.length : Int).toNat [D.int IntKind.i64 0, D.int IntKind.i64 0, D.str [], D.str [], D.sl true 1 []]))).bind fun t28 => (k t28.snd)) else none
def M.laws_toNodeS (a : List Row) : Option (List Row) := M.laws_toNodeS_C a some
theorem C.laws_toNodeS : S.laws_toNodeS.ok X0 fun x => M.laws_toNodeS x.1.1 := fnS (fun x => M.laws_toNodeS_C x.1.1) [] [F.laws_toNodeS_l3] (by intros; simp only [M.laws_toNodeS_C, nb] <;> rfl)
def M.spec_l1In_C {R : Type} (x' : Int) (low : Int) (high : Int) (k : Bool → Option R) : Option R :=
  bif decide (x' ≥ low) then (k (decide (x' ≤ high))) else (k false)
def M.spec_l1In (x' : Int) (low : Int) (high : Int) : Option (Bool) := M.spec_l1In_C x' low high some
theorem C.spec_l1In : S.spec_l1In.ok X0 fun x => M.spec_l1In x.1.1 x.1.2.1 x.1.2.2.1 := fnS (fun x => M.spec_l1In_C x.1.1 x.1.2.1 x.1.2.2.1) [] [] (by intros; simp only [M.spec_l1In_C, nb] <;> rfl)
def M.spec_l6Starts_l7_C {R : Type} (l : List Row) (i : Int) (x' : List Row) (s : Int × Int) (kn : Int × Int → Option R) (ke : (Unit) ⊕ (Int × Int) → Option R) : Option R := match s with
  | (at', k') =>
    bif decide (k' ≥ 0) then
     ((idx l i).bind fun row33 =>
      ((cSl 1 row33 4).bind fun rows34 =>
       ((idx rows34 k').bind fun row35 =>
        ((cInt IntKind.i64 row35 0).bind fun n36 =>
         (bif n36 != IntKind.i64.wrap (at' - 1) then (ke (.inl ())) else
          (bif at' == 0 then (ke (.inl ())) else
           ((idx x' (IntKind.i64.wrap (at' - 1))).bind fun row37 =>
            ((x'[(IntKind.i64.wrap (at' - 1)).toNat]?).bind fun row38 => ((cInt IntKind.i64 row38 0).bind fun n39 => (kn ((n39, IntKind.i64.wrap (k' - 1))))))))))))) else (ke (.inr ((at', k'))))
def M.spec_l6Starts_l7_b (l : List Row) (i : Int) (x' : List Row) (s : Int × Int) := M.spec_l6Starts_l7_C l i x' s (fun s => some (Sum.inl s)) fun t => some (Sum.inr t)
def M.spec_l6Starts_l7 (l : List Row) (i : Int) (x' : List Row) (s : Int × Int) : Option ((Unit) ⊕ (Int × Int)) := loopM (M.spec_l6Starts_l7_b l i x') s
def F.spec_l6Starts_l7 : LE X0 42 := le 7 (pSt [pAt 0 (pL false 5), pAt 4 (pO 300000 0), pAt 5 pI, pAt 6 pI, pAt 7 pI] [pAt 300000 (cA false true 0 1)]) (fun x => (x.1.2.2.2.1, x.1.2.2.2.2.1)) (fun x s => ((x.1.1, (), x.1.2.2.1, s.1, s.2, ()), (x.2.1, ()))) (fun x => .sum (.leaf (Unit) (fun t => (Ex.ret, { tm := [(2, V.own 300000 0), (3, V.d (D.bool false))], mem := [(300000, Cell.arr false true 0 1 [])] }))) (.leaf (Int × Int) (fun t => (Ex.exit 2, { tm := [(0, V.d (D.sl false 5 x.1.1)), (4, V.own 300000 0), (5, V.d (D.int IntKind.i64 x.1.2.2.1)), (6, V.d (D.int IntKind.i64 t.fst)), (7, V.d (D.int IntKind.i64 t.snd)), (24, V.d (D.bool false))], mem := [(300000, Cell.arr false true 0 1 x.2.1)] })))) (fun x => M.spec_l6Starts_l7_C x.1.1 x.1.2.2.1 x.2.1) [] [] (by rintro _ _ ⟨_, _⟩ _ _ <;> simp only [M.spec_l6Starts_l7_C, nb] <;> rfl)
def M.spec_l6Starts_l3_C {R : Type} (l : List Row) (s : Int × List Row) (kn : Int × List Row → Option R) (ke : (Unit) ⊕ (Int × List Row) → Option R) : Option R := match s with
  | (i, x') =>
    bif decide (i < (↑l.length : Int)) then
     ((idx l i).bind fun row31 =>
      ((cSl 1 row31 4).bind fun rows32 =>
       ((M.spec_l6Starts_l7 l i x' ((i, IntKind.i64.wrap ((↑rows32.length : Int) - 1)))).bind fun u44 =>
       sumE u44 (fun t40 => (ke (.inl ()))) fun u45 =>
        letE u45 fun t41 =>
         (bif ((x'.length + [[D.int IntKind.i64 t41.fst]].length) * 8).ble 140737488355328 then
          (bif (x'.length + [[D.int IntKind.i64 t41.fst]].length).ble 140737488355328 then (kn ((IntKind.i64.wrap (i + 1), x' ++ [[D.int IntKind.i64 t41.fst]]))) else none) else none)))) else (ke (.inr ((i, x'))))
def M.spec_l6Starts_l3_b (l : List Row) (s : Int × List Row) := M.spec_l6Starts_l3_C l s (fun s => some (Sum.inl s)) fun t => some (Sum.inr t)
def M.spec_l6Starts_l3 (l : List Row) (s : Int × List Row) : Option ((Unit) ⊕ (Int × List Row)) := loopM (M.spec_l6Starts_l3_b l) s
def F.spec_l6Starts_l3 : LE X0 42 := le 3 (pSt [pAt 0 (pL false 5), pAt 4 (pO 300000 0), pAt 5 pI] [pAt 300000 (cA false true 0 1)]) (fun x => (x.1.2.2.1, x.2.1)) (fun x s => ((x.1.1, (), s.1, ()), (s.2, ()))) (fun x => .sum (.leaf (Unit) (fun t => (Ex.ret, { tm := [(2, V.own 300000 0), (3, V.d (D.bool false))], mem := [(300000, Cell.arr false true 0 1 [])] }))) (.leaf (Int × List Row) (fun t => (Ex.exit 0, { tm := [(0, V.d (D.sl false 5 x.1.1)), (4, V.own 300000 0), (5, V.d (D.int IntKind.i64 t.fst)), (12, V.d (D.bool false))], mem := [(300000, Cell.arr false true 0 1 t.snd)] })))) (fun x => M.spec_l6Starts_l3_C x.1.1) [] [F.spec_l6Starts_l7] (by rintro _ _ ⟨_, _⟩ _ _ <;> simp only [M.spec_l6Starts_l3_C, nb] <;> rfl)
def M.spec_l6Starts_C {R : Type} (l : List Row) (k : List Row × Bool → Option R) : Option R :=
  (M.spec_l6Starts_l3 l ((0, []))).bind fun u46 =>
  sumE u46 (fun t42 => (k (([], false)))) fun u47 =>
   letE u47 fun t43 => (bif flatRows t43.snd then (k ((t43.snd, true))) else none)
def M.spec_l6Starts (l : List Row) : Option (List Row × Bool) := M.spec_l6Starts_C l some
theorem C.spec_l6Starts : S.spec_l6Starts.ok X0 fun x => M.spec_l6Starts x.1.1 := fnS (fun x => M.spec_l6Starts_C x.1.1) [] [F.spec_l6Starts_l3] (by intros; simp only [M.spec_l6Starts_C, nb] <;> rfl)
def M.spec_ShapeOk_C {R : Type} (l : List Row) (k : Bool → Option R) : Option R :=
  (M.spec_l1In ((↑l.length : Int)) 1 400).bind fun r30 =>
   (bif !r30 then (k false) else
    ((M.spec_l6Starts l).bind fun r48 =>
     (bif r48.snd then
      ((idx r48.fst (IntKind.i64.wrap ((↑l.length : Int) - 1))).bind fun row49 =>
       ((r48.fst[(IntKind.i64.wrap ((↑l.length : Int) - 1)).toNat]?).bind fun row50 => ((cInt IntKind.i64 row50 0).bind fun n51 => (k (n51 == 0))))) else (k false))))
def M.spec_ShapeOk (l : List Row) : Option (Bool) := M.spec_ShapeOk_C l some
theorem C.spec_ShapeOk : S.spec_ShapeOk.ok X0 fun x => M.spec_ShapeOk x.1.1 := fnS (fun x => M.spec_ShapeOk_C x.1.1) [fe C.spec_l1In, fe C.spec_l6Starts] [] (by intros; simp only [M.spec_ShapeOk_C, nb] <;> rfl)
def M.spec_DepthOf_l9_C {R : Type} (l : List Row) (i : Int) (x' : List Row) (s : Int × Int) (kn : Int × Int → Option R) (ke : Int × Int → Option R) : Option R := match s with
  | (n', k') =>
    (idx l i).bind fun row54 =>
     ((cSl 1 row54 4).bind fun rows55 =>
      (bif decide (k' < (↑rows55.length : Int)) then
       ((idx l i).bind fun row56 =>
        ((cSl 1 row56 4).bind fun rows57 =>
         ((idx rows57 k').bind fun row58 =>
          ((cInt IntKind.i64 row58 0).bind fun n59 =>
           ((idx x' n59).bind fun row60 =>
            (x'[n59.toNat]?.bind fun row61 =>
             ((cInt IntKind.i64 row61 0).bind fun n62 =>
              (kn ((bif decide (n' < IntKind.i64.wrap (1 + n62)) then IntKind.i64.wrap (1 + n62) else n', IntKind.i64.wrap (k' + 1))))))))))) else (ke ((n', k')))))
def M.spec_DepthOf_l9_b (l : List Row) (i : Int) (x' : List Row) (s : Int × Int) := M.spec_DepthOf_l9_C l i x' s (fun s => some (Sum.inl s)) fun t => some (Sum.inr t)
def M.spec_DepthOf_l9 (l : List Row) (i : Int) (x' : List Row) (s : Int × Int) : Option (Int × Int) := loopM (M.spec_DepthOf_l9_b l i x') s
def F.spec_DepthOf_l9 : LE X0 39 := le 9 (pSt [pAt 0 (pL false 5), pAt 3 (pO 300000 0), pAt 4 pI, pAt 5 pI, pAt 6 pI] [pAt 300000 (cA false true 0 1)]) (fun x => (x.1.2.2.2.1, x.1.2.2.2.2.1)) (fun x s => ((x.1.1, (), x.1.2.2.1, s.1, s.2, ()), (x.2.1, ()))) (fun x => .leaf (Int × Int) (fun t => (Ex.exit 2, { tm := [(0, V.d (D.sl false 5 x.1.1)), (3, V.own 300000 0), (4, V.d (D.int IntKind.i64 x.1.2.2.1)), (5, V.d (D.int IntKind.i64 t.fst)), (6, V.d (D.int IntKind.i64 t.snd)), (24, V.d (D.bool false))], mem := [(300000, Cell.arr false true 0 1 x.2.1)] }))) (fun x => M.spec_DepthOf_l9_C x.1.1 x.1.2.2.1 x.2.1) [] [] (by rintro _ _ ⟨_, _⟩ _ _ <;> simp only [M.spec_DepthOf_l9_C, nb] <;> rfl)
def M.spec_DepthOf_l5_C {R : Type} (l : List Row) (s : Int × List Row) (kn : Int × List Row → Option R) (ke : Int × List Row → Option R) : Option R := match s with
  | (i, x') =>
    bif decide (i < (↑l.length : Int)) then
     ((M.spec_DepthOf_l9 l i x' ((1, 0))).bind fun t63 =>
      (bif ((x'.length + [[D.int IntKind.i64 t63.fst]].length) * 8).ble 140737488355328 then
       (bif (x'.length + [[D.int IntKind.i64 t63.fst]].length).ble 140737488355328 then (kn ((IntKind.i64.wrap (i + 1), x' ++ [[D.int IntKind.i64 t63.fst]]))) else none) else none)) else (ke ((i, x')))
def M.spec_DepthOf_l5_b (l : List Row) (s : Int × List Row) := M.spec_DepthOf_l5_C l s (fun s => some (Sum.inl s)) fun t => some (Sum.inr t)
def M.spec_DepthOf_l5 (l : List Row) (s : Int × List Row) : Option (Int × List Row) := loopM (M.spec_DepthOf_l5_b l) s
def F.spec_DepthOf_l5 : LE X0 39 := le 5 (pSt [pAt 0 (pL false 5), pAt 3 (pO 300000 0), pAt 4 pI] [pAt 300000 (cA false true 0 1)]) (fun x => (x.1.2.2.1, x.2.1)) (fun x s => ((x.1.1, (), s.1, ()), (s.2, ()))) (fun x => .leaf (Int × List Row) (fun t => (Ex.exit 0, { tm := [(0, V.d (D.sl false 5 x.1.1)), (3, V.own 300000 0), (4, V.d (D.int IntKind.i64 t.fst)), (14, V.d (D.bool false))], mem := [(300000, Cell.arr false true 0 1 t.snd)] }))) (fun x => M.spec_DepthOf_l5_C x.1.1) [] [F.spec_DepthOf_l9] (by rintro _ _ ⟨_, _⟩ _ _ <;> simp only [M.spec_DepthOf_l5_C, nb] <;> rfl)
def M.spec_DepthOf_C {R : Type} (l : List Row) (k : Int → Option R) : Option R :=
  (M.spec_ShapeOk l).bind fun r53 =>
   (bif !r53 then (k 0) else
    ((M.spec_DepthOf_l5 l ((0, []))).bind fun t64 =>
     ((idx t64.snd (IntKind.i64.wrap ((↑l.length : Int) - 1))).bind fun row65 =>
      ((t64.snd[(IntKind.i64.wrap ((↑l.length : Int) - 1)).toNat]?).bind fun row66 => ((cInt IntKind.i64 row66 0).bind fun n67 => (k n67))))))
def M.spec_DepthOf (l : List Row) : Option (Int) := M.spec_DepthOf_C l some
theorem C.spec_DepthOf : S.spec_DepthOf.ok X0 fun x => M.spec_DepthOf x.1.1 := fnS (fun x => M.spec_DepthOf_C x.1.1) [fe C.spec_ShapeOk] [F.spec_DepthOf_l5] (by intros; simp only [M.spec_DepthOf_C, nb] <;> rfl)
def M.spec_l7Many_C {R : Type} (n' : Int) (n'1 : Int) (n'2 : List UInt8) (n'3 : List UInt8) (n'4 : List Row) (k : Int × Int → Option R) : Option R :=
  bif n' == 5 then (k ((1, 6))) else
   (bif n' == 13 then (k ((1, 6))) else
    (bif n' == 7 then (k ((0, 6))) else
     (bif n' == 8 then (k ((0, 6))) else
      (bif n' == 27 then (k ((0, 6))) else
       (bif n' == 6 then (k ((1, 1))) else
        (bif n' == 9 then (k ((1, 1))) else
         (bif n' == 10 then (k ((1, 1))) else
          (bif n' == 11 then (k ((1, 1))) else
           (bif n' == 20 then (k ((1, 1))) else
            (bif n' == 32 then (k ((1, 1))) else
             (bif n' == 40 then (k ((1, 1))) else
              (bif n' == 41 then (k ((1, 1))) else
               (bif n' == 12 then (k ((2, 2))) else
                (bif n' == 15 then (k ((2, 2))) else
                 (bif n' == 29 then (k ((2, 2))) else
                  (bif n' == 30 then (k ((2, 2))) else
                   (bif n' == 14 then (k ((3, 3))) else
                    (bif n' == 21 then (bif !n'3 == [] then (k ((IntKind.i64.wrap (n'1 + 1), 7))) else (k ((n'1, 6)))) else
                     (bif n' == 23 then (k ((0, 1))) else
                      (bif n' == 24 then (k ((0, 1))) else
                       (bif n' == 28 then (k ((2, 3))) else
                        (bif n' == 31 then (k ((4, 4))) else
                         (bif n' == 33 then (k ((0, (↑n'4.length : Int)))) else
                          (bif n' == 45 then (k ((0, (↑n'4.length : Int)))) else
                           (bif n' == 42 then
                            (k ((IntKind.i64.wrap (1 + IntKind.i64.wrap (n'1.tdiv 3)), IntKind.i64.wrap (1 + IntKind.i64.wrap (n'1.tdiv 3))))) else
                            (bif n' == 43 then
                             (k ((IntKind.i64.wrap (2 + IntKind.i64.wrap (n'1.tdiv 3)), IntKind.i64.wrap (2 + IntKind.i64.wrap (n'1.tdiv 3))))) else (bif n' == 44 then (k ((1, 7))) else (k ((0, 0))))))))))))))))))))))))))))))
def M.spec_l7Many (n' : Int) (n'1 : Int) (n'2 : List UInt8) (n'3 : List UInt8) (n'4 : List Row) : Option (Int × Int) := M.spec_l7Many_C n' n'1 n'2 n'3 n'4 some
theorem C.spec_l7Many : S.spec_l7Many.ok X0 fun x => M.spec_l7Many x.1.1.1 x.1.1.2.1 x.1.1.2.2.1 x.1.1.2.2.2.1 x.1.1.2.2.2.2.1 := fnS (fun x => M.spec_l7Many_C x.1.1.1 x.1.1.2.1 x.1.1.2.2.1 x.1.1.2.2.2.1 x.1.1.2.2.2.2.1) [] [] (by intros; unfold M.spec_l7Many_C; repeat' first | with_reducible apply nbif | with_reducible apply nbb | with_reducible apply nbo | with_reducible apply nbs | with_reducible apply nbl | (intro _) | apply nbif | rfl)
def M.spec_l7IsBin_C {R : Type} (op' : Int) (k : Bool → Option R) : Option R :=
  bif op' == 60 then (k true) else
   (bif op' == 57 then (k true) else
    (bif op' == 58 then (k true) else
     (bif op' == 59 then (k true) else
      (bif op' == 55 then (k true) else
       (bif op' == 56 then (k true) else
        (bif op' == 99 then (k true) else
         (bif op' == 63 then (k true) else
          (bif op' == 48 then (k true) else
           (bif op' == 47 then (k true) else
            (bif op' == 50 then (k true) else
             (bif op' == 62 then (k true) else
              (bif op' == 49 then (k true) else
               (bif op' == 67 then (k true) else
                (bif op' == 46 then (k true) else (bif op' == 45 then (k true) else (bif op' == 44 then (k true) else (k false)))))))))))))))))
def M.spec_l7IsBin (op' : Int) : Option (Bool) := M.spec_l7IsBin_C op' some
theorem C.spec_l7IsBin : S.spec_l7IsBin.ok X0 fun x => M.spec_l7IsBin x.1.1 := fnS (fun x => M.spec_l7IsBin_C x.1.1) [] [] (by intros; unfold M.spec_l7IsBin_C; repeat' first | with_reducible apply nbif | with_reducible apply nbb | with_reducible apply nbo | with_reducible apply nbs | with_reducible apply nbl | (intro _) | apply nbif | rfl)
def M.spec_l7IsAssign_C {R : Type} (op' : Int) (k : Bool → Option R) : Option R :=
  bif op' == 54 then (k true) else ((M.spec_l1In op' 38 43).bind fun r78 => (k r78))
def M.spec_l7IsAssign (op' : Int) : Option (Bool) := M.spec_l7IsAssign_C op' some
theorem C.spec_l7IsAssign : S.spec_l7IsAssign.ok X0 fun x => M.spec_l7IsAssign x.1.1 := fnS (fun x => M.spec_l7IsAssign_C x.1.1) [fe C.spec_l1In] [] (by intros; simp only [M.spec_l7IsAssign_C, nb] <;> rfl)
def M.spec_l7Op_C {R : Type} (n' : Int) (n'1 : Int) (n'2 : List UInt8) (n'3 : List UInt8) (n'4 : List Row) (k : Bool → Option R) : Option R :=
  bif n' == 9 then (bif n'1 == 51 then (k true) else (k (n'1 == 52))) else
   (bif n' == 10 then (bif n'1 == 51 then (k true) else (k (n'1 == 52))) else
    (bif n' == 11 then (bif n'1 == 55 then (k true) else (bif n'1 == 56 then (k true) else (k (n'1 == 61)))) else
     (bif n' == 12 then ((M.spec_l7IsBin n'1).bind fun r77 => (k r77)) else
      (bif n' == 15 then ((M.spec_l7IsAssign n'1).bind fun r79 => (k r79)) else
       (bif n' == 21 then ((M.spec_l1In n'1 0 1).bind fun r80 => (k r80)) else
        (bif n' == 42 then ((M.spec_l1In n'1 1 3).bind fun r81 => (k r81)) else (bif n' == 43 then (bif n'1 == 1 then (k true) else (k (n'1 == 3))) else (k (n'1 == 0)))))))))
def M.spec_l7Op (n' : Int) (n'1 : Int) (n'2 : List UInt8) (n'3 : List UInt8) (n'4 : List Row) : Option (Bool) := M.spec_l7Op_C n' n'1 n'2 n'3 n'4 some
theorem C.spec_l7Op : S.spec_l7Op.ok X0 fun x => M.spec_l7Op x.1.1.1 x.1.1.2.1 x.1.1.2.2.1 x.1.1.2.2.2.1 x.1.1.2.2.2.2.1 := fnS (fun x => M.spec_l7Op_C x.1.1.1 x.1.1.2.1 x.1.1.2.2.1 x.1.1.2.2.2.1 x.1.1.2.2.2.2.1) [fe C.spec_l7IsBin, fe C.spec_l7IsAssign, fe C.spec_l1In] [] (by intros; simp only [M.spec_l7Op_C, nb] <;> rfl)
def M.spec_IsLetter_C {R : Type} (b : Int) (k : Bool → Option R) : Option R :=
  (M.spec_l1In b 97 122).bind fun r84 =>
   (bif r84 then (k true) else ((M.spec_l1In b 65 90).bind fun r85 => (bif r85 then (k true) else (k (b == 95)))))
def M.spec_IsLetter (b : Int) : Option (Bool) := M.spec_IsLetter_C b some
theorem C.spec_IsLetter : S.spec_IsLetter.ok X0 fun x => M.spec_IsLetter x.1.1 := fnS (fun x => M.spec_IsLetter_C x.1.1) [fe C.spec_l1In] [] (by intros; simp only [M.spec_IsLetter_C, nb] <;> rfl)
def M.spec_IsDigit_C {R : Type} (b : Int) (k : Bool → Option R) : Option R :=
  (M.spec_l1In b 48 57).bind fun r87 => (k r87)
def M.spec_IsDigit (b : Int) : Option (Bool) := M.spec_IsDigit_C b some
theorem C.spec_IsDigit : S.spec_IsDigit.ok X0 fun x => M.spec_IsDigit x.1.1 := fnS (fun x => M.spec_IsDigit_C x.1.1) [fe C.spec_l1In] [] (by intros; simp only [M.spec_IsDigit_C, nb] <;> rfl)
def M.spec_IsWordByte_C {R : Type} (b : Int) (k : Bool → Option R) : Option R :=
  (M.spec_IsLetter b).bind fun r86 => (bif r86 then (k true) else ((M.spec_IsDigit b).bind fun r88 => (k r88)))
def M.spec_IsWordByte (b : Int) : Option (Bool) := M.spec_IsWordByte_C b some
theorem C.spec_IsWordByte : S.spec_IsWordByte.ok X0 fun x => M.spec_IsWordByte x.1.1 := fnS (fun x => M.spec_IsWordByte_C x.1.1) [fe C.spec_IsLetter, fe C.spec_IsDigit] [] (by intros; simp only [M.spec_IsWordByte_C, nb] <;> rfl)
def M.spec_NameShape_l2_C {R : Type} (s' : List UInt8) (s : Int) (kn : Int → Option R) (ke : (Unit) ⊕ (Int) → Option R) : Option R := match s with
  | i =>
    bif decide (i < (↑s'.length : Int)) then
     ((idx s' i).bind fun c83 =>
      ((M.spec_IsWordByte (IntKind.i64.wrap (↑c83.toNat : Int))).bind fun r89 => (bif !r89 then (ke (.inl ())) else (kn (IntKind.i64.wrap (i + 1)))))) else (ke (.inr i))
def M.spec_NameShape_l2_b (s' : List UInt8) (s : Int) := M.spec_NameShape_l2_C s' s (fun s => some (Sum.inl s)) fun t => some (Sum.inr t)
def M.spec_NameShape_l2 (s' : List UInt8) (s : Int) : Option ((Unit) ⊕ (Int)) := loopM (M.spec_NameShape_l2_b s') s
def F.spec_NameShape_l2 : LE X0 80 := le 2 (pSt [pAt 0 pS, pAt 3 pI] []) (fun x => x.1.2.1) (fun x s => ((x.1.1, s, ()), ())) (fun x => .sum (.leaf (Unit) (fun t => (Ex.ret, { tm := [(2, V.d (D.bool false))], mem := [] }))) (.leaf (Int) (fun t => (Ex.exit 0, { tm := [(0, V.d (D.str x.1.1)), (3, V.d (D.int IntKind.i64 t)), (7, V.d (D.bool false))], mem := [] })))) (fun x => M.spec_NameShape_l2_C x.1.1) [fe C.spec_IsWordByte] [] (by rintro _ _ _ _ _ <;> simp only [M.spec_NameShape_l2_C, nb] <;> rfl)
def M.spec_NameShape_C {R : Type} (s' : List UInt8) (k : Bool → Option R) : Option R :=
  (M.spec_NameShape_l2 s' 0).bind fun u95 =>
  sumE u95 (fun t90 => (k false)) fun u96 =>
   letE u96 fun t91 =>
    ((M.spec_l1In ((↑s'.length : Int)) 1 12).bind fun r92 =>
     (bif r92 then
      ((idx s' 0).bind fun c93 => ((M.spec_IsLetter (IntKind.i64.wrap (↑c93.toNat : Int))).bind fun r94 => (k r94))) else (k false)))
def M.spec_NameShape (s' : List UInt8) : Option (Bool) := M.spec_NameShape_C s' some
theorem C.spec_NameShape : S.spec_NameShape.ok X0 fun x => M.spec_NameShape x.1.1 := fnS (fun x => M.spec_NameShape_C x.1.1) [fe C.spec_l1In, fe C.spec_IsLetter] [F.spec_NameShape_l2] (by intros; simp only [M.spec_NameShape_C, nb] <;> rfl)
def M.spec_l3Words_C {R : Type} (k : List Row → Option R) : Option R :=
  k ([[D.str [66, 69, 71, 73, 78]], [D.str [69, 78, 68]], [D.str [102, 117, 110, 99, 116, 105, 111, 110]], [D.str [105, 102]], [D.str [101, 108, 115, 101]], [D.str [119, 104, 105, 108, 101]], [D.str [102, 111, 114]], [D.str [100, 111]], [D.str [98, 114, 101, 97, 107]], [D.str [99, 111, 110, 116, 105, 110, 117, 101]], [D.str [110, 101, 120, 116]], [D.str [101, 120, 105, 116]], [D.str [114, 101, 116, 117, 114, 110]], [D.str [100, 101, 108, 101, 116, 101]], [D.str [105, 110]], [D.str [112, 114, 105, 110, 116]], [D.str [112, 114, 105, 110, 116, 102]]])
def M.spec_l3Words : Option (List Row) := M.spec_l3Words_C some
theorem C.spec_l3Words : S.spec_l3Words.ok X0 fun x => M.spec_l3Words := fnS (fun x => M.spec_l3Words_C) [] [] (by intros; simp only [M.spec_l3Words_C, nb] <;> rfl)
def M.spec_l3Find_l2_C {R : Type} (l : List Row) (s' : List UInt8) (s : Int) (kn : Int → Option R) (ke : (Int) ⊕ (Int) → Option R) : Option R := match s with
  | i =>
    bif decide (i < (↑l.length : Int)) then
     ((idx l i).bind fun row99 =>
      ((cStr row99 0).bind fun s100 => (bif s100 == s' then (ke (.inl i)) else (kn (IntKind.i64.wrap (i + 1)))))) else (ke (.inr i))
def M.spec_l3Find_l2_b (l : List Row) (s' : List UInt8) (s : Int) := M.spec_l3Find_l2_C l s' s (fun s => some (Sum.inl s)) fun t => some (Sum.inr t)
def M.spec_l3Find_l2 (l : List Row) (s' : List UInt8) (s : Int) : Option ((Int) ⊕ (Int)) := loopM (M.spec_l3Find_l2_b l s') s
def F.spec_l3Find_l2 : LE X0 87 := le 2 (pSt [pAt 0 (pL false 1), pAt 1 pS, pAt 5 pI] []) (fun x => x.1.2.2.1) (fun x s => ((x.1.1, x.1.2.1, s, ()), ())) (fun x => .sum (.leaf (Int) (fun t => (Ex.ret, { tm := [(4, V.d (D.int IntKind.i64 t))], mem := [] }))) (.leaf (Int) (fun t => (Ex.exit 0, { tm := [(0, V.d (D.sl false 1 x.1.1)), (1, V.d (D.str x.1.2.1)), (5, V.d (D.int IntKind.i64 t)), (9, V.d (D.bool false))], mem := [] })))) (fun x => M.spec_l3Find_l2_C x.1.1 x.1.2.1) [] [] (by rintro _ _ _ _ _ <;> simp only [M.spec_l3Find_l2_C, nb] <;> rfl)
def M.spec_l3Find_C {R : Type} (l : List Row) (s' : List UInt8) (k : Int → Option R) : Option R :=
  (M.spec_l3Find_l2 l s' 0).bind fun u103 =>
  sumE u103 (fun t101 => (k t101)) fun u104 =>
   letE u104 fun t102 => (k (-1))
def M.spec_l3Find (l : List Row) (s' : List UInt8) : Option (Int) := M.spec_l3Find_C l s' some
theorem C.spec_l3Find : S.spec_l3Find.ok X0 fun x => M.spec_l3Find x.1.1 x.1.2.1 := fnS (fun x => M.spec_l3Find_C x.1.1 x.1.2.1) [] [F.spec_l3Find_l2] (by intros; simp only [M.spec_l3Find_C, nb] <;> rfl)
def M.spec_KeywordOf_C {R : Type} (s' : List UInt8) (k : Int → Option R) : Option R :=
  M.spec_l3Words.bind fun r98 =>
   ((M.spec_l3Find r98 s').bind fun r105 => (bif decide (r105 < 0) then (k 0) else (k (IntKind.i64.wrap (10 + r105)))))
def M.spec_KeywordOf (s' : List UInt8) : Option (Int) := M.spec_KeywordOf_C s' some
theorem C.spec_KeywordOf : S.spec_KeywordOf.ok X0 fun x => M.spec_KeywordOf x.1.1 := fnS (fun x => M.spec_KeywordOf_C x.1.1) [fe C.spec_l3Words, fe C.spec_l3Find] [] (by intros; simp only [M.spec_KeywordOf_C, nb] <;> rfl)
def M.spec_l3Builtins_C {R : Type} (k : List Row → Option R) : Option R :=
  k ([[D.str [97, 116, 97, 110, 50]], [D.str [99, 108, 111, 115, 101]], [D.str [99, 111, 115]], [D.str [101, 120, 112]], [D.str [103, 115, 117, 98]], [D.str [105, 110, 100, 101, 120]], [D.str [105, 110, 116]], [D.str [108, 101, 110, 103, 116, 104]], [D.str [108, 111, 103]], [D.str [109, 97, 116, 99, 104]], [D.str [114, 97, 110, 100]], [D.str [115, 105, 110]], [D.str [115, 112, 108, 105, 116]], [D.str [115, 112, 114, 105, 110, 116, 102]], [D.str [115, 113, 114, 116]], [D.str [115, 114, 97, 110, 100]], [D.str [115, 117, 98]], [D.str [115, 117, 98, 115, 116, 114]], [D.str [115, 121, 115, 116, 101, 109]], [D.str [116, 111, 108, 111, 119, 101, 114]], [D.str [116, 111, 117, 112, 112, 101, 114]]])
def M.spec_l3Builtins : Option (List Row) := M.spec_l3Builtins_C some
theorem C.spec_l3Builtins : S.spec_l3Builtins.ok X0 fun x => M.spec_l3Builtins := fnS (fun x => M.spec_l3Builtins_C) [] [] (by intros; simp only [M.spec_l3Builtins_C, nb] <;> rfl)
def M.spec_IsBuiltin_C {R : Type} (s' : List UInt8) (k : Bool → Option R) : Option R :=
  M.spec_l3Builtins.bind fun r107 => ((M.spec_l3Find r107 s').bind fun r108 => (k (decide (r108 ≥ 0))))
def M.spec_IsBuiltin (s' : List UInt8) : Option (Bool) := M.spec_IsBuiltin_C s' some
theorem C.spec_IsBuiltin : S.spec_IsBuiltin.ok X0 fun x => M.spec_IsBuiltin x.1.1 := fnS (fun x => M.spec_IsBuiltin_C x.1.1) [fe C.spec_l3Builtins, fe C.spec_l3Find] [] (by intros; simp only [M.spec_IsBuiltin_C, nb] <;> rfl)
def M.spec_NameOk_C {R : Type} (s' : List UInt8) (k : Bool → Option R) : Option R :=
  (M.spec_NameShape s').bind fun r97 =>
   (bif r97 then
    ((M.spec_KeywordOf s').bind fun r106 => (bif r106 == 0 then ((M.spec_IsBuiltin s').bind fun r109 => (k !r109)) else (k false))) else (k false))
def M.spec_NameOk (s' : List UInt8) : Option (Bool) := M.spec_NameOk_C s' some
theorem C.spec_NameOk : S.spec_NameOk.ok X0 fun x => M.spec_NameOk x.1.1 := fnS (fun x => M.spec_NameOk_C x.1.1) [fe C.spec_NameShape, fe C.spec_KeywordOf, fe C.spec_IsBuiltin] [] (by intros; simp only [M.spec_NameOk_C, nb] <;> rfl)
def M.spec_l4Plain_l2_C {R : Type} (s' : List UInt8) (s : Int) (kn : Int → Option R) (ke : (Unit) ⊕ (Int) → Option R) : Option R := match s with
  | i =>
    bif decide (i < (↑s'.length : Int)) then
     ((idx s' i).bind fun c117 => (bif (↑c117.toNat : Int) == 10 then (ke (.inl ())) else (kn (IntKind.i64.wrap (i + 1))))) else (ke (.inr i))
def M.spec_l4Plain_l2_b (s' : List UInt8) (s : Int) := M.spec_l4Plain_l2_C s' s (fun s => some (Sum.inl s)) fun t => some (Sum.inr t)
def M.spec_l4Plain_l2 (s' : List UInt8) (s : Int) : Option ((Unit) ⊕ (Int)) := loopM (M.spec_l4Plain_l2_b s') s
def F.spec_l4Plain_l2 : LE X0 82 := le 2 (pSt [pAt 0 pS, pAt 3 pI] []) (fun x => x.1.2.1) (fun x s => ((x.1.1, s, ()), ())) (fun x => .sum (.leaf (Unit) (fun t => (Ex.ret, { tm := [(2, V.d (D.bool false))], mem := [] }))) (.leaf (Int) (fun t => (Ex.exit 0, { tm := [(0, V.d (D.str x.1.1)), (3, V.d (D.int IntKind.i64 t)), (7, V.d (D.bool false))], mem := [] })))) (fun x => M.spec_l4Plain_l2_C x.1.1) [] [] (by rintro _ _ _ _ _ <;> simp only [M.spec_l4Plain_l2_C, nb] <;> rfl)
def M.spec_l4Plain_C {R : Type} (s' : List UInt8) (k : Bool → Option R) : Option R :=
  (M.spec_l4Plain_l2 s' 0).bind fun u120 =>
  sumE u120 (fun t118 => (k false)) fun u121 =>
   letE u121 fun t119 => (k true)
def M.spec_l4Plain (s' : List UInt8) : Option (Bool) := M.spec_l4Plain_C s' some
theorem C.spec_l4Plain : S.spec_l4Plain.ok X0 fun x => M.spec_l4Plain x.1.1 := fnS (fun x => M.spec_l4Plain_C x.1.1) [] [F.spec_l4Plain_l2] (by intros; simp only [M.spec_l4Plain_C, nb] <;> rfl)
def M.spec_l4Byte_C {R : Type} (s' : List UInt8) (at' : Int) (k : Int → Option R) : Option R :=
  bif decide (at' < 0) then (k (-1)) else
   (bif decide (at' ≥ (↑s'.length : Int)) then (k (-1)) else ((idx s' at').bind fun c123 => (k (IntKind.i64.wrap (↑c123.toNat : Int)))))
def M.spec_l4Byte (s' : List UInt8) (at' : Int) : Option (Int) := M.spec_l4Byte_C s' at' some
theorem C.spec_l4Byte : S.spec_l4Byte.ok X0 fun x => M.spec_l4Byte x.1.1 x.1.2.1 := fnS (fun x => M.spec_l4Byte_C x.1.1 x.1.2.1) [] [] (by intros; simp only [M.spec_l4Byte_C, nb] <;> rfl)
def M.spec_l4Digits_l1_C {R : Type} (s' : List UInt8) (s : Int) (kn : Int → Option R) (ke : Int → Option R) : Option R := match s with
  | at' =>
    (M.spec_l4Byte s' at').bind fun r124 =>
     ((M.spec_IsDigit r124).bind fun r125 => (bif r125 then (kn (IntKind.i64.wrap (at' + 1))) else (ke at')))
def M.spec_l4Digits_l1_b (s' : List UInt8) (s : Int) := M.spec_l4Digits_l1_C s' s (fun s => some (Sum.inl s)) fun t => some (Sum.inr t)
def M.spec_l4Digits_l1 (s' : List UInt8) (s : Int) : Option (Int) := loopM (M.spec_l4Digits_l1_b s') s
def F.spec_l4Digits_l1 : LE X0 101 := le 1 (pSt [pAt 0 pS, pAt 1 pI] []) (fun x => x.1.2.1) (fun x s => ((x.1.1, s, ()), ())) (fun x => .leaf (Int) (fun t => (Ex.exit 0, { tm := [(0, V.d (D.str x.1.1)), (1, V.d (D.int IntKind.i64 t)), (8, V.d (D.bool false))], mem := [] }))) (fun x => M.spec_l4Digits_l1_C x.1.1) [fe C.spec_l4Byte, fe C.spec_IsDigit] [] (by rintro _ _ _ _ _ <;> simp only [M.spec_l4Digits_l1_C, nb] <;> rfl)
def M.spec_l4Digits_C {R : Type} (s' : List UInt8) (at' : Int) (k : Int → Option R) : Option R :=
  (M.spec_l4Digits_l1 s' at').bind fun t126 => (k t126)
def M.spec_l4Digits (s' : List UInt8) (at' : Int) : Option (Int) := M.spec_l4Digits_C s' at' some
theorem C.spec_l4Digits : S.spec_l4Digits.ok X0 fun x => M.spec_l4Digits x.1.1 x.1.2.1 := fnS (fun x => M.spec_l4Digits_C x.1.1 x.1.2.1) [] [F.spec_l4Digits_l1] (by intros; simp only [M.spec_l4Digits_C, nb] <;> rfl)
def M.spec_NumEnd_C {R : Type} (s' : List UInt8) (at' : Int) (k : Int → Option R) : Option R :=
  bif decide (at' < 0) then (k (-1)) else
   ((M.spec_l4Digits s' at').bind fun r127 =>
    ((M.spec_l4Byte s' r127).bind fun r128 =>
     (bif r128 == 46 then
      ((M.spec_l4Digits s' (IntKind.i64.wrap (r127 + 1))).bind fun r129 =>
       (bif r127 == at' then
        (bif r129 == IntKind.i64.wrap (r127 + 1) then (k (-1)) else
         (bif r129 == at' then (k (-1)) else
          ((M.spec_l4Byte s' r129).bind fun r130 =>
           (bif r130 == 101 then
            ((M.spec_l4Byte s' (IntKind.i64.wrap (r129 + 1))).bind fun r131 =>
             (bif r131 == 43 then
              ((M.spec_l4Digits s' (IntKind.i64.wrap (IntKind.i64.wrap (r129 + 1) + 1))).bind fun r132 =>
               (bif decide (r132 > IntKind.i64.wrap (IntKind.i64.wrap (r129 + 1) + 1)) then
                ((M.spec_l4Digits s' (IntKind.i64.wrap (IntKind.i64.wrap (r129 + 1) + 1))).bind fun r133 => (k r133)) else (k r129))) else
              ((M.spec_l4Byte s' (IntKind.i64.wrap (r129 + 1))).bind fun r134 =>
               (bif r134 == 45 then
                ((M.spec_l4Digits s' (IntKind.i64.wrap (IntKind.i64.wrap (r129 + 1) + 1))).bind fun r135 =>
                 (bif decide (r135 > IntKind.i64.wrap (IntKind.i64.wrap (r129 + 1) + 1)) then
                  ((M.spec_l4Digits s' (IntKind.i64.wrap (IntKind.i64.wrap (r129 + 1) + 1))).bind fun r136 => (k r136)) else (k r129))) else
                ((M.spec_l4Digits s' (IntKind.i64.wrap (r129 + 1))).bind fun r137 =>
                 (bif decide (r137 > IntKind.i64.wrap (r129 + 1)) then ((M.spec_l4Digits s' (IntKind.i64.wrap (r129 + 1))).bind fun r138 => (k r138)) else (k r129))))))) else
            ((M.spec_l4Byte s' r129).bind fun r139 =>
             (bif r139 == 69 then
              ((M.spec_l4Byte s' (IntKind.i64.wrap (r129 + 1))).bind fun r140 =>
               (bif r140 == 43 then
                ((M.spec_l4Digits s' (IntKind.i64.wrap (IntKind.i64.wrap (r129 + 1) + 1))).bind fun r141 =>
                 (bif decide (r141 > IntKind.i64.wrap (IntKind.i64.wrap (r129 + 1) + 1)) then
                  ((M.spec_l4Digits s' (IntKind.i64.wrap (IntKind.i64.wrap (r129 + 1) + 1))).bind fun r142 => (k r142)) else (k r129))) else
                ((M.spec_l4Byte s' (IntKind.i64.wrap (r129 + 1))).bind fun r143 =>
                 (bif r143 == 45 then
                  ((M.spec_l4Digits s' (IntKind.i64.wrap (IntKind.i64.wrap (r129 + 1) + 1))).bind fun r144 =>
                   (bif decide (r144 > IntKind.i64.wrap (IntKind.i64.wrap (r129 + 1) + 1)) then
                    ((M.spec_l4Digits s' (IntKind.i64.wrap (IntKind.i64.wrap (r129 + 1) + 1))).bind fun r145 => (k r145)) else (k r129))) else
                  ((M.spec_l4Digits s' (IntKind.i64.wrap (r129 + 1))).bind fun r146 =>
                   (bif decide (r146 > IntKind.i64.wrap (r129 + 1)) then ((M.spec_l4Digits s' (IntKind.i64.wrap (r129 + 1))).bind fun r147 => (k r147)) else (k r129))))))) else (k r129))))))) else
        (bif r129 == at' then (k (-1)) else
         ((M.spec_l4Byte s' r129).bind fun r148 =>
          (bif r148 == 101 then
           ((M.spec_l4Byte s' (IntKind.i64.wrap (r129 + 1))).bind fun r149 =>
            (bif r149 == 43 then
             ((M.spec_l4Digits s' (IntKind.i64.wrap (IntKind.i64.wrap (r129 + 1) + 1))).bind fun r150 =>
              (bif decide (r150 > IntKind.i64.wrap (IntKind.i64.wrap (r129 + 1) + 1)) then
               ((M.spec_l4Digits s' (IntKind.i64.wrap (IntKind.i64.wrap (r129 + 1) + 1))).bind fun r151 => (k r151)) else (k r129))) else
             ((M.spec_l4Byte s' (IntKind.i64.wrap (r129 + 1))).bind fun r152 =>
              (bif r152 == 45 then
               ((M.spec_l4Digits s' (IntKind.i64.wrap (IntKind.i64.wrap (r129 + 1) + 1))).bind fun r153 =>
                (bif decide (r153 > IntKind.i64.wrap (IntKind.i64.wrap (r129 + 1) + 1)) then
                 ((M.spec_l4Digits s' (IntKind.i64.wrap (IntKind.i64.wrap (r129 + 1) + 1))).bind fun r154 => (k r154)) else (k r129))) else
               ((M.spec_l4Digits s' (IntKind.i64.wrap (r129 + 1))).bind fun r155 =>
                (bif decide (r155 > IntKind.i64.wrap (r129 + 1)) then ((M.spec_l4Digits s' (IntKind.i64.wrap (r129 + 1))).bind fun r156 => (k r156)) else (k r129))))))) else
           ((M.spec_l4Byte s' r129).bind fun r157 =>
            (bif r157 == 69 then
             ((M.spec_l4Byte s' (IntKind.i64.wrap (r129 + 1))).bind fun r158 =>
              (bif r158 == 43 then
               ((M.spec_l4Digits s' (IntKind.i64.wrap (IntKind.i64.wrap (r129 + 1) + 1))).bind fun r159 =>
                (bif decide (r159 > IntKind.i64.wrap (IntKind.i64.wrap (r129 + 1) + 1)) then
                 ((M.spec_l4Digits s' (IntKind.i64.wrap (IntKind.i64.wrap (r129 + 1) + 1))).bind fun r160 => (k r160)) else (k r129))) else
               ((M.spec_l4Byte s' (IntKind.i64.wrap (r129 + 1))).bind fun r161 =>
                (bif r161 == 45 then
                 ((M.spec_l4Digits s' (IntKind.i64.wrap (IntKind.i64.wrap (r129 + 1) + 1))).bind fun r162 =>
                  (bif decide (r162 > IntKind.i64.wrap (IntKind.i64.wrap (r129 + 1) + 1)) then
                   ((M.spec_l4Digits s' (IntKind.i64.wrap (IntKind.i64.wrap (r129 + 1) + 1))).bind fun r163 => (k r163)) else (k r129))) else
                 ((M.spec_l4Digits s' (IntKind.i64.wrap (r129 + 1))).bind fun r164 =>
                  (bif decide (r164 > IntKind.i64.wrap (r129 + 1)) then ((M.spec_l4Digits s' (IntKind.i64.wrap (r129 + 1))).bind fun r165 => (k r165)) else (k r129))))))) else (k r129)))))))) else
      (bif r127 == at' then (k (-1)) else
       ((M.spec_l4Byte s' r127).bind fun r166 =>
        (bif r166 == 101 then
         ((M.spec_l4Byte s' (IntKind.i64.wrap (r127 + 1))).bind fun r167 =>
          (bif r167 == 43 then
           ((M.spec_l4Digits s' (IntKind.i64.wrap (IntKind.i64.wrap (r127 + 1) + 1))).bind fun r168 =>
            (bif decide (r168 > IntKind.i64.wrap (IntKind.i64.wrap (r127 + 1) + 1)) then
             ((M.spec_l4Digits s' (IntKind.i64.wrap (IntKind.i64.wrap (r127 + 1) + 1))).bind fun r169 => (k r169)) else (k r127))) else
           ((M.spec_l4Byte s' (IntKind.i64.wrap (r127 + 1))).bind fun r170 =>
            (bif r170 == 45 then
             ((M.spec_l4Digits s' (IntKind.i64.wrap (IntKind.i64.wrap (r127 + 1) + 1))).bind fun r171 =>
              (bif decide (r171 > IntKind.i64.wrap (IntKind.i64.wrap (r127 + 1) + 1)) then
               ((M.spec_l4Digits s' (IntKind.i64.wrap (IntKind.i64.wrap (r127 + 1) + 1))).bind fun r172 => (k r172)) else (k r127))) else
             ((M.spec_l4Digits s' (IntKind.i64.wrap (r127 + 1))).bind fun r173 =>
              (bif decide (r173 > IntKind.i64.wrap (r127 + 1)) then ((M.spec_l4Digits s' (IntKind.i64.wrap (r127 + 1))).bind fun r174 => (k r174)) else (k r127))))))) else
         ((M.spec_l4Byte s' r127).bind fun r175 =>
          (bif r175 == 69 then
           ((M.spec_l4Byte s' (IntKind.i64.wrap (r127 + 1))).bind fun r176 =>
            (bif r176 == 43 then
             ((M.spec_l4Digits s' (IntKind.i64.wrap (IntKind.i64.wrap (r127 + 1) + 1))).bind fun r177 =>
              (bif decide (r177 > IntKind.i64.wrap (IntKind.i64.wrap (r127 + 1) + 1)) then
               ((M.spec_l4Digits s' (IntKind.i64.wrap (IntKind.i64.wrap (r127 + 1) + 1))).bind fun r178 => (k r178)) else (k r127))) else
             ((M.spec_l4Byte s' (IntKind.i64.wrap (r127 + 1))).bind fun r179 =>
              (bif r179 == 45 then
               ((M.spec_l4Digits s' (IntKind.i64.wrap (IntKind.i64.wrap (r127 + 1) + 1))).bind fun r180 =>
                (bif decide (r180 > IntKind.i64.wrap (IntKind.i64.wrap (r127 + 1) + 1)) then
                 ((M.spec_l4Digits s' (IntKind.i64.wrap (IntKind.i64.wrap (r127 + 1) + 1))).bind fun r181 => (k r181)) else (k r127))) else
               ((M.spec_l4Digits s' (IntKind.i64.wrap (r127 + 1))).bind fun r182 =>
                (bif decide (r182 > IntKind.i64.wrap (r127 + 1)) then ((M.spec_l4Digits s' (IntKind.i64.wrap (r127 + 1))).bind fun r183 => (k r183)) else (k r127))))))) else (k r127)))))))))
def M.spec_NumEnd (s' : List UInt8) (at' : Int) : Option (Int) := M.spec_NumEnd_C s' at' some
theorem C.spec_NumEnd : S.spec_NumEnd.ok X0 fun x => M.spec_NumEnd x.1.1 x.1.2.1 := fnS (fun x => M.spec_NumEnd_C x.1.1 x.1.2.1) [fe C.spec_l4Digits, fe C.spec_l4Byte] [] (by intros; unfold M.spec_NumEnd_C; repeat' first | with_reducible apply nbif | with_reducible apply nbb | with_reducible apply nbo | with_reducible apply nbs | with_reducible apply nbl | (intro _) | apply nbif | rfl)
def M.spec_l4Quoted_l4_C {R : Type} (s' : List UInt8) (sign : Int) (s : Int) (kn : Int → Option R) (ke : (Int) ⊕ (Int) → Option R) : Option R := match s with
  | i =>
    bif decide (i < (↑s'.length : Int)) then
     ((idx s' i).bind fun c186 =>
      (bif IntKind.i64.wrap (↑c186.toNat : Int) == sign then (ke (.inl (IntKind.i64.wrap (i + 1)))) else
       (bif IntKind.i64.wrap (↑c186.toNat : Int) == 10 then (ke (.inl (-1))) else
        (bif IntKind.i64.wrap (↑c186.toNat : Int) == 92 then
         ((M.spec_l4Byte s' (IntKind.i64.wrap (i + 1))).bind fun r187 =>
          (bif r187 == 10 then (ke (.inl (-1))) else (kn (IntKind.i64.wrap (IntKind.i64.wrap (i + 1) + 1))))) else (kn (IntKind.i64.wrap (i + 1))))))) else (ke (.inr i))
def M.spec_l4Quoted_l4_b (s' : List UInt8) (sign : Int) (s : Int) := M.spec_l4Quoted_l4_C s' sign s (fun s => some (Sum.inl s)) fun t => some (Sum.inr t)
def M.spec_l4Quoted_l4 (s' : List UInt8) (sign : Int) (s : Int) : Option ((Int) ⊕ (Int)) := loopM (M.spec_l4Quoted_l4_b s' sign) s
def F.spec_l4Quoted_l4 : LE X0 103 := le 4 (pSt [pAt 0 pS, pAt 2 pI, pAt 7 pI] []) (fun x => x.1.2.2.1) (fun x s => ((x.1.1, x.1.2.1, s, ()), ())) (fun x => .sum (.leaf (Int) (fun t => (Ex.ret, { tm := [(6, V.d (D.int IntKind.i64 t))], mem := [] }))) (.leaf (Int) (fun t => (Ex.exit 0, { tm := [(0, V.d (D.str x.1.1)), (2, V.d (D.int IntKind.i64 x.1.2.1)), (7, V.d (D.int IntKind.i64 t)), (18, V.d (D.bool false))], mem := [] })))) (fun x => M.spec_l4Quoted_l4_C x.1.1 x.1.2.1) [fe C.spec_l4Byte] [] (by rintro _ _ _ _ _ <;> simp only [M.spec_l4Quoted_l4_C, nb] <;> rfl)
def M.spec_l4Quoted_C {R : Type} (s' : List UInt8) (at' : Int) (sign : Int) (k : Int → Option R) : Option R :=
  (M.spec_l4Byte s' at').bind fun r185 =>
   (bif r185 != sign then (k (-1)) else
    ((M.spec_l4Quoted_l4 s' sign (IntKind.i64.wrap (at' + 1))).bind fun u190 =>
    sumE u190 (fun t188 => (k t188)) fun u191 =>
     letE u191 fun t189 => (k (-1))))
def M.spec_l4Quoted (s' : List UInt8) (at' : Int) (sign : Int) : Option (Int) := M.spec_l4Quoted_C s' at' sign some
theorem C.spec_l4Quoted : S.spec_l4Quoted.ok X0 fun x => M.spec_l4Quoted x.1.1 x.1.2.1 x.1.2.2.1 := fnS (fun x => M.spec_l4Quoted_C x.1.1 x.1.2.1 x.1.2.2.1) [fe C.spec_l4Byte] [F.spec_l4Quoted_l4] (by intros; simp only [M.spec_l4Quoted_C, nb] <;> rfl)
def M.spec_StrEnd_C {R : Type} (s' : List UInt8) (at' : Int) (k : Int → Option R) : Option R :=
  (M.spec_l4Quoted s' at' 34).bind fun r192 => (k r192)
def M.spec_StrEnd (s' : List UInt8) (at' : Int) : Option (Int) := M.spec_StrEnd_C s' at' some
theorem C.spec_StrEnd : S.spec_StrEnd.ok X0 fun x => M.spec_StrEnd x.1.1 x.1.2.1 := fnS (fun x => M.spec_StrEnd_C x.1.1 x.1.2.1) [fe C.spec_l4Quoted] [] (by intros; simp only [M.spec_StrEnd_C, nb] <;> rfl)
def M.spec_EreEnd_C {R : Type} (s' : List UInt8) (at' : Int) (k : Int → Option R) : Option R :=
  (M.spec_l4Quoted s' at' 47).bind fun r194 => (bif r194 == IntKind.i64.wrap (at' + 2) then (k (-1)) else (k r194))
def M.spec_EreEnd (s' : List UInt8) (at' : Int) : Option (Int) := M.spec_EreEnd_C s' at' some
theorem C.spec_EreEnd : S.spec_EreEnd.ok X0 fun x => M.spec_EreEnd x.1.1 x.1.2.1 := fnS (fun x => M.spec_EreEnd_C x.1.1 x.1.2.1) [fe C.spec_l4Quoted] [] (by intros; simp only [M.spec_EreEnd_C, nb] <;> rfl)
def M.spec_l3Signs_C {R : Type} (k : List Row → Option R) : Option R :=
  k ([[D.str [123]], [D.str [125]], [D.str [40]], [D.str [41]], [D.str [91]], [D.str [93]], [D.str [44]], [D.str [59]], [D.str [43, 61]], [D.str [45, 61]], [D.str [42, 61]], [D.str [47, 61]], [D.str [37, 61]], [D.str [94, 61]], [D.str [124, 124]], [D.str [38, 38]], [D.str [33, 126]], [D.str [61, 61]], [D.str [60, 61]], [D.str [62, 61]], [D.str [33, 61]], [D.str [43, 43]], [D.str [45, 45]], [D.str [62, 62]], [D.str [61]], [D.str [43]], [D.str [45]], [D.str [42]], [D.str [47]], [D.str [37]], [D.str [94]], [D.str [33]], [D.str [62]], [D.str [60]], [D.str [124]], [D.str [63]], [D.str [58]], [D.str [126]], [D.str [36]]])
def M.spec_l3Signs : Option (List Row) := M.spec_l3Signs_C some
theorem C.spec_l3Signs : S.spec_l3Signs.ok X0 fun x => M.spec_l3Signs := fnS (fun x => M.spec_l3Signs_C) [] [] (by intros; simp only [M.spec_l3Signs_C, nb] <;> rfl)
def M.spec_SpellOf_C {R : Type} (kind : Int) (k : List UInt8 → Option R) : Option R :=
  bif kind == 1 then (k [10]) else
   ((M.spec_l1In kind 10 26).bind fun r199 =>
    (bif r199 then
     (M.spec_l3Words.bind fun r200 =>
      ((idx r200 (IntKind.i64.wrap (kind - 10))).bind fun row201 =>
       ((r200[(IntKind.i64.wrap (kind - 10)).toNat]?).bind fun row202 => ((cStr row202 0).bind fun s203 => (k s203))))) else
     ((M.spec_l1In kind 30 68).bind fun r204 =>
      (bif r204 then
       (M.spec_l3Signs.bind fun r205 =>
        ((idx r205 (IntKind.i64.wrap (kind - 30))).bind fun row206 =>
         ((r205[(IntKind.i64.wrap (kind - 30)).toNat]?).bind fun row207 => ((cStr row207 0).bind fun s208 => (k s208))))) else (k [])))))
def M.spec_SpellOf (kind : Int) : Option (List UInt8) := M.spec_SpellOf_C kind some
theorem C.spec_SpellOf : S.spec_SpellOf.ok X0 fun x => M.spec_SpellOf x.1.1 := fnS (fun x => M.spec_SpellOf_C x.1.1) [fe C.spec_l1In, fe C.spec_l3Words, fe C.spec_l3Signs] [] (by intros; simp only [M.spec_SpellOf_C, nb] <;> rfl)
def M.spec_TokenOk_C {R : Type} (t' : Int) (t'1 : List UInt8) (t'2 : Int) (k : Bool → Option R) : Option R :=
  bif t' == 2 then
   (bif decide ((↑t'1.length : Int) > 0) then
    ((idx t'1 0).bind fun c116 =>
     (bif (↑c116.toNat : Int) == 35 then ((M.spec_l4Plain t'1).bind fun r122 => (k r122)) else (k false))) else (k false)) else
   (bif t' == 3 then
    (bif decide ((↑t'1.length : Int) > 0) then ((M.spec_NumEnd t'1 0).bind fun r184 => (k (r184 == (↑t'1.length : Int)))) else (k false)) else
    (bif t' == 4 then ((M.spec_StrEnd t'1 0).bind fun r193 => (k (r193 == (↑t'1.length : Int)))) else
     (bif t' == 5 then ((M.spec_EreEnd t'1 0).bind fun r195 => (k (r195 == (↑t'1.length : Int)))) else
      (bif t' == 6 then ((M.spec_NameOk t'1).bind fun r196 => (k r196)) else
       (bif t' == 7 then ((M.spec_NameOk t'1).bind fun r197 => (k r197)) else
        (bif t' == 8 then ((M.spec_IsBuiltin t'1).bind fun r198 => (k r198)) else
         (bif !t'1 == [] then ((M.spec_SpellOf t').bind fun r209 => (k (r209 == t'1))) else (k false))))))))
def M.spec_TokenOk (t' : Int) (t'1 : List UInt8) (t'2 : Int) : Option (Bool) := M.spec_TokenOk_C t' t'1 t'2 some
theorem C.spec_TokenOk : S.spec_TokenOk.ok X0 fun x => M.spec_TokenOk x.1.1.1 x.1.1.2.1 x.1.1.2.2.1 := fnS (fun x => M.spec_TokenOk_C x.1.1.1 x.1.1.2.1 x.1.1.2.2.1) [fe C.spec_l4Plain, fe C.spec_NumEnd, fe C.spec_StrEnd, fe C.spec_EreEnd, fe C.spec_NameOk, fe C.spec_IsBuiltin, fe C.spec_SpellOf] [] (by intros; simp only [M.spec_TokenOk_C, nb] <;> rfl)
def M.spec_l7Text_C {R : Type} (n' : Int) (n'1 : Int) (n'2 : List UInt8) (n'3 : List UInt8) (n'4 : List Row) (k : Bool → Option R) : Option R :=
  bif n' == 1 then ((M.spec_NameOk n'2).bind fun r110 => (bif r110 then (k (n'3 == [])) else (k false))) else
   (bif n' == 5 then ((M.spec_NameOk n'2).bind fun r111 => (bif r111 then (k (n'3 == [])) else (k false))) else
    (bif n' == 7 then ((M.spec_NameOk n'2).bind fun r112 => (bif r112 then (k (n'3 == [])) else (k false))) else
     (bif n' == 13 then ((M.spec_NameOk n'2).bind fun r113 => (bif r113 then (k (n'3 == [])) else (k false))) else
      (bif n' == 27 then ((M.spec_NameOk n'2).bind fun r114 => (bif r114 then (k (n'3 == [])) else (k false))) else
       (bif n' == 44 then ((M.spec_NameOk n'2).bind fun r115 => (bif r115 then (k (n'3 == [])) else (k false))) else
        (bif n' == 2 then ((M.spec_TokenOk 3 n'2 0).bind fun r210 => (bif r210 then (k (n'3 == [])) else (k false))) else
         (bif n' == 3 then ((M.spec_TokenOk 4 n'2 0).bind fun r211 => (bif r211 then (k (n'3 == [])) else (k false))) else
          (bif n' == 4 then ((M.spec_TokenOk 5 n'2 0).bind fun r212 => (bif r212 then (k (n'3 == [])) else (k false))) else
           (bif n' == 34 then ((M.spec_TokenOk 2 n'2 0).bind fun r213 => (bif r213 then (k (n'3 == [])) else (k false))) else
            (bif n' == 8 then ((M.spec_IsBuiltin n'2).bind fun r214 => (bif r214 then (k (n'3 == [])) else (k false))) else
             (bif n' == 32 then
              ((M.spec_NameOk n'2).bind fun r215 => (bif r215 then ((M.spec_NameOk n'3).bind fun r216 => (k r216)) else (k false))) else
              (bif n' == 21 then
               (bif n'2 == [] then
                (bif n'3 == [] then (k true) else
                 (bif n'3 == [62] then (k true) else (bif n'3 == [62, 62] then (k true) else (k (n'3 == [124]))))) else (k false)) else (bif n'2 == [] then (k (n'3 == [])) else (k false))))))))))))))
def M.spec_l7Text (n' : Int) (n'1 : Int) (n'2 : List UInt8) (n'3 : List UInt8) (n'4 : List Row) : Option (Bool) := M.spec_l7Text_C n' n'1 n'2 n'3 n'4 some
theorem C.spec_l7Text : S.spec_l7Text.ok X0 fun x => M.spec_l7Text x.1.1.1 x.1.1.2.1 x.1.1.2.2.1 x.1.1.2.2.2.1 x.1.1.2.2.2.2.1 := fnS (fun x => M.spec_l7Text_C x.1.1.1 x.1.1.2.1 x.1.1.2.2.1 x.1.1.2.2.2.1 x.1.1.2.2.2.2.1) [fe C.spec_NameOk, fe C.spec_TokenOk, fe C.spec_IsBuiltin] [] (by intros; unfold M.spec_l7Text_C; repeat' first | with_reducible apply nbif | with_reducible apply nbb | with_reducible apply nbo | with_reducible apply nbs | with_reducible apply nbl | (intro _) | apply nbif | rfl)
def M.spec_FieldsOk_C {R : Type} (n' : Int) (n'1 : Int) (n'2 : List UInt8) (n'3 : List UInt8) (n'4 : List Row) (k : Bool → Option R) : Option R :=
  (M.spec_l7Many n' n'1 n'2 n'3 n'4).bind fun r75 =>
   ((M.spec_l1In n' 1 16).bind fun r76 =>
    (bif r76 then
     ((M.spec_l7Op n' n'1 n'2 n'3 n'4).bind fun r82 =>
      (bif r82 then
       ((M.spec_l7Text n' n'1 n'2 n'3 n'4).bind fun r217 =>
        (bif r217 then ((M.spec_l1In ((↑n'4.length : Int)) r75.fst r75.snd).bind fun r218 => (k r218)) else (k false))) else (k false))) else
     ((M.spec_l1In n' 20 34).bind fun r219 =>
      (bif r219 then
       ((M.spec_l7Op n' n'1 n'2 n'3 n'4).bind fun r220 =>
        (bif r220 then
         ((M.spec_l7Text n' n'1 n'2 n'3 n'4).bind fun r221 =>
          (bif r221 then ((M.spec_l1In ((↑n'4.length : Int)) r75.fst r75.snd).bind fun r222 => (k r222)) else (k false))) else (k false))) else
       ((M.spec_l1In n' 40 45).bind fun r223 =>
        (bif r223 then
         ((M.spec_l7Op n' n'1 n'2 n'3 n'4).bind fun r224 =>
          (bif r224 then
           ((M.spec_l7Text n' n'1 n'2 n'3 n'4).bind fun r225 =>
            (bif r225 then ((M.spec_l1In ((↑n'4.length : Int)) r75.fst r75.snd).bind fun r226 => (k r226)) else (k false))) else (k false))) else (k false)))))))
def M.spec_FieldsOk (n' : Int) (n'1 : Int) (n'2 : List UInt8) (n'3 : List UInt8) (n'4 : List Row) : Option (Bool) := M.spec_FieldsOk_C n' n'1 n'2 n'3 n'4 some
theorem C.spec_FieldsOk : S.spec_FieldsOk.ok X0 fun x => M.spec_FieldsOk x.1.1.1 x.1.1.2.1 x.1.1.2.2.1 x.1.1.2.2.2.1 x.1.1.2.2.2.2.1 := fnS (fun x => M.spec_FieldsOk_C x.1.1.1 x.1.1.2.1 x.1.1.2.2.1 x.1.1.2.2.2.1 x.1.1.2.2.2.2.1) [fe C.spec_l7Many, fe C.spec_l1In, fe C.spec_l7Op, fe C.spec_l7Text] [] (by intros; simp only [M.spec_FieldsOk_C, nb] <;> rfl)
def M.spec_IsLvalue_C {R : Type} (kind : Int) (k : Bool → Option R) : Option R :=
  bif kind == 1 then (k true) else (bif kind == 5 then (k true) else (k (kind == 6)))
def M.spec_IsLvalue (kind : Int) : Option (Bool) := M.spec_IsLvalue_C kind some
theorem C.spec_IsLvalue : S.spec_IsLvalue.ok X0 fun x => M.spec_IsLvalue x.1.1 := fnS (fun x => M.spec_IsLvalue_C x.1.1) [] [] (by intros; simp only [M.spec_IsLvalue_C, nb] <;> rfl)
def M.spec_IsExpr_C {R : Type} (kind : Int) (k : Bool → Option R) : Option R :=
  (M.spec_l1In kind 1 15).bind fun r244 => (k r244)
def M.spec_IsExpr (kind : Int) : Option (Bool) := M.spec_IsExpr_C kind some
theorem C.spec_IsExpr : S.spec_IsExpr.ok X0 fun x => M.spec_IsExpr x.1.1 := fnS (fun x => M.spec_IsExpr_C x.1.1) [fe C.spec_l1In] [] (by intros; simp only [M.spec_IsExpr_C, nb] <;> rfl)
def M.spec_IsStmt_C {R : Type} (kind : Int) (k : Bool → Option R) : Option R :=
  (M.spec_l1In kind 20 34).bind fun r252 => (k r252)
def M.spec_IsStmt (kind : Int) : Option (Bool) := M.spec_IsStmt_C kind some
theorem C.spec_IsStmt : S.spec_IsStmt.ok X0 fun x => M.spec_IsStmt x.1.1 := fnS (fun x => M.spec_IsStmt_C x.1.1) [fe C.spec_l1In] [] (by intros; simp only [M.spec_IsStmt_C, nb] <;> rfl)
def M.spec_l7Kid_C {R : Type} (n' : Int) (n'1 : Int) (n'2 : List UInt8) (n'3 : List UInt8) (n'4 : List Row) (k' : Int) (kind : Int) (k : Bool → Option R) : Option R :=
  bif n' == 9 then ((M.spec_IsLvalue kind).bind fun r242 => (k r242)) else
   (bif n' == 10 then ((M.spec_IsLvalue kind).bind fun r243 => (k r243)) else
    (bif n' == 15 then
     ((M.spec_IsExpr kind).bind fun r245 =>
      (bif r245 then (bif decide (k' > 0) then (k true) else ((M.spec_IsLvalue kind).bind fun r246 => (k r246))) else (k false))) else
     (bif n' == 28 then
      (bif k' == 0 then
       ((M.spec_IsExpr kind).bind fun r247 => (bif r247 then (k true) else (bif decide (k' > 0) then (k (kind == 33)) else (k false)))) else (bif decide (k' > 0) then (k (kind == 33)) else (k false))) else
      (bif n' == 29 then
       (bif k' == 0 then
        ((M.spec_IsExpr kind).bind fun r248 => (bif r248 then (k true) else (bif k' == 1 then (k (kind == 33)) else (k false)))) else (bif k' == 1 then (k (kind == 33)) else (k false))) else
       (bif n' == 30 then
        (bif k' == 0 then
         (bif kind == 33 then (k true) else (bif k' == 1 then ((M.spec_IsExpr kind).bind fun r249 => (k r249)) else (k false))) else (bif k' == 1 then ((M.spec_IsExpr kind).bind fun r250 => (k r250)) else (k false))) else
        (bif n' == 31 then
         (bif decide (k' < 3) then
          ((M.spec_IsExpr kind).bind fun r251 =>
           (bif r251 then (k true) else (bif kind == 16 then (k true) else (bif k' == 3 then (k (kind == 33)) else (k false))))) else (bif k' == 3 then (k (kind == 33)) else (k false))) else
         (bif n' == 32 then (k (kind == 33)) else
          (bif n' == 40 then (k (kind == 33)) else
           (bif n' == 41 then (k (kind == 33)) else
            (bif n' == 33 then ((M.spec_IsStmt kind).bind fun r253 => (k r253)) else
             (bif n' == 42 then
              (bif n'1 == 1 then
               ((M.spec_IsExpr kind).bind fun r254 =>
                (bif r254 then (k true) else
                 (bif n'1 == 2 then
                  (bif kind == 33 then (k true) else
                   (bif n'1 == 3 then
                    (bif k' == IntKind.i64.wrap ((↑n'4.length : Int) - 1) then
                     (bif kind == 33 then (k true) else
                      (bif !k' == IntKind.i64.wrap ((↑n'4.length : Int) - 1) then ((M.spec_IsExpr kind).bind fun r255 => (k r255)) else (k false))) else
                     (bif !k' == IntKind.i64.wrap ((↑n'4.length : Int) - 1) then ((M.spec_IsExpr kind).bind fun r256 => (k r256)) else (k false))) else (k false))) else
                  (bif n'1 == 3 then
                   (bif k' == IntKind.i64.wrap ((↑n'4.length : Int) - 1) then
                    (bif kind == 33 then (k true) else
                     (bif !k' == IntKind.i64.wrap ((↑n'4.length : Int) - 1) then ((M.spec_IsExpr kind).bind fun r257 => (k r257)) else (k false))) else
                    (bif !k' == IntKind.i64.wrap ((↑n'4.length : Int) - 1) then ((M.spec_IsExpr kind).bind fun r258 => (k r258)) else (k false))) else (k false))))) else
               (bif n'1 == 2 then
                (bif kind == 33 then (k true) else
                 (bif n'1 == 3 then
                  (bif k' == IntKind.i64.wrap ((↑n'4.length : Int) - 1) then
                   (bif kind == 33 then (k true) else
                    (bif !k' == IntKind.i64.wrap ((↑n'4.length : Int) - 1) then ((M.spec_IsExpr kind).bind fun r259 => (k r259)) else (k false))) else
                   (bif !k' == IntKind.i64.wrap ((↑n'4.length : Int) - 1) then ((M.spec_IsExpr kind).bind fun r260 => (k r260)) else (k false))) else (k false))) else
                (bif n'1 == 3 then
                 (bif k' == IntKind.i64.wrap ((↑n'4.length : Int) - 1) then
                  (bif kind == 33 then (k true) else
                   (bif !k' == IntKind.i64.wrap ((↑n'4.length : Int) - 1) then ((M.spec_IsExpr kind).bind fun r261 => (k r261)) else (k false))) else
                  (bif !k' == IntKind.i64.wrap ((↑n'4.length : Int) - 1) then ((M.spec_IsExpr kind).bind fun r262 => (k r262)) else (k false))) else (k false)))) else
              (bif n' == 43 then
               (bif decide (k' < 2) then
                ((M.spec_IsExpr kind).bind fun r263 => (bif r263 then (k true) else (bif k' == 2 then (k (kind == 33)) else (k false)))) else (bif k' == 2 then (k (kind == 33)) else (k false))) else
               (bif n' == 44 then
                (bif k' == IntKind.i64.wrap ((↑n'4.length : Int) - 1) then
                 (bif kind == 33 then (k true) else (bif !k' == IntKind.i64.wrap ((↑n'4.length : Int) - 1) then (k (kind == 1)) else (k false))) else (bif !k' == IntKind.i64.wrap ((↑n'4.length : Int) - 1) then (k (kind == 1)) else (k false))) else
                (bif n' == 45 then ((M.spec_l1In kind 40 44).bind fun r264 => (bif r264 then (k true) else (k (kind == 34)))) else ((M.spec_IsExpr kind).bind fun r265 => (k r265))))))))))))))))
def M.spec_l7Kid (n' : Int) (n'1 : Int) (n'2 : List UInt8) (n'3 : List UInt8) (n'4 : List Row) (k' : Int) (kind : Int) : Option (Bool) := M.spec_l7Kid_C n' n'1 n'2 n'3 n'4 k' kind some
theorem C.spec_l7Kid : S.spec_l7Kid.ok X0 fun x => M.spec_l7Kid x.1.1.1 x.1.1.2.1 x.1.1.2.2.1 x.1.1.2.2.2.1 x.1.1.2.2.2.2.1 x.1.2.1 x.1.2.2.1 := fnS (fun x => M.spec_l7Kid_C x.1.1.1 x.1.1.2.1 x.1.1.2.2.1 x.1.1.2.2.2.1 x.1.1.2.2.2.2.1 x.1.2.1 x.1.2.2.1) [fe C.spec_IsLvalue, fe C.spec_IsExpr, fe C.spec_IsStmt, fe C.spec_l1In] [] (by intros; unfold M.spec_l7Kid_C; repeat' first | with_reducible apply nbif | with_reducible apply nbb | with_reducible apply nbo | with_reducible apply nbs | with_reducible apply nbl | (intro _) | apply nbif | rfl)
def M.spec_TreeOk_l9_C {R : Type} (l : List Row) (i : Int) (s : Int) (kn : Int → Option R) (ke : (Unit) ⊕ (Int) → Option R) : Option R := match s with
  | k' =>
    (idx l i).bind fun row228 =>
     ((cSl 1 row228 4).bind fun rows229 =>
      (bif decide (k' < (↑rows229.length : Int)) then
       ((idx l i).bind fun row230 =>
        ((cInt IntKind.i64 row230 0).bind fun n231 =>
         ((cInt IntKind.i64 row230 1).bind fun n232 =>
          ((cStr row230 2).bind fun s233 =>
           ((cStr row230 3).bind fun s234 =>
            ((cSl 1 row230 4).bind fun rows235 =>
             ((idx l i).bind fun row236 =>
              ((cSl 1 row236 4).bind fun rows237 =>
               ((idx rows237 k').bind fun row238 =>
                ((cInt IntKind.i64 row238 0).bind fun n239 =>
                 ((idx l n239).bind fun row240 =>
                  ((cInt IntKind.i64 row240 0).bind fun n241 =>
                   ((M.spec_l7Kid n231 n232 s233 s234 rows235 k' n241).bind fun r266 => (bif !r266 then (ke (.inl ())) else (kn (IntKind.i64.wrap (k' + 1))))))))))))))))) else (ke (.inr k'))))
def M.spec_TreeOk_l9_b (l : List Row) (i : Int) (s : Int) := M.spec_TreeOk_l9_C l i s (fun s => some (Sum.inl s)) fun t => some (Sum.inr t)
def M.spec_TreeOk_l9 (l : List Row) (i : Int) (s : Int) : Option ((Unit) ⊕ (Int)) := loopM (M.spec_TreeOk_l9_b l i) s
def F.spec_TreeOk_l9 : LE X0 28 := le 9 (pSt [pAt 0 (pL false 5), pAt 3 pI, pAt 4 pI] []) (fun x => x.1.2.2.1) (fun x s => ((x.1.1, x.1.2.1, s, ()), ())) (fun x => .sum (.leaf (Unit) (fun t => (Ex.ret, { tm := [(2, V.d (D.bool false))], mem := [] }))) (.leaf (Int) (fun t => (Ex.exit 2, { tm := [(0, V.d (D.sl false 5 x.1.1)), (3, V.d (D.int IntKind.i64 x.1.2.1)), (4, V.d (D.int IntKind.i64 t)), (32, V.d (D.bool false))], mem := [] })))) (fun x => M.spec_TreeOk_l9_C x.1.1 x.1.2.1) [fe C.spec_l7Kid] [] (by rintro _ _ _ _ _ <;> simp only [M.spec_TreeOk_l9_C, nb] <;> rfl)
def M.spec_TreeOk_l4_C {R : Type} (l : List Row) (s : Int) (kn : Int → Option R) (ke : (Unit) ⊕ (Int) → Option R) : Option R := match s with
  | i =>
    bif decide (i < (↑l.length : Int)) then
     ((idx l i).bind fun row69 =>
      ((cInt IntKind.i64 row69 0).bind fun n70 =>
       ((cInt IntKind.i64 row69 1).bind fun n71 =>
        ((cStr row69 2).bind fun s72 =>
         ((cStr row69 3).bind fun s73 =>
          ((cSl 1 row69 4).bind fun rows74 =>
           ((M.spec_FieldsOk n70 n71 s72 s73 rows74).bind fun r227 =>
            (bif !r227 then (ke (.inl ())) else
             ((M.spec_TreeOk_l9 l i 0).bind fun u271 =>
             sumE u271 (fun t267 => (ke (.inl ()))) fun u272 =>
              letE u272 fun t268 => (kn (IntKind.i64.wrap (i + 1)))))))))))) else (ke (.inr i))
def M.spec_TreeOk_l4_b (l : List Row) (s : Int) := M.spec_TreeOk_l4_C l s (fun s => some (Sum.inl s)) fun t => some (Sum.inr t)
def M.spec_TreeOk_l4 (l : List Row) (s : Int) : Option ((Unit) ⊕ (Int)) := loopM (M.spec_TreeOk_l4_b l) s
def F.spec_TreeOk_l4 : LE X0 28 := le 4 (pSt [pAt 0 (pL false 5), pAt 3 pI] []) (fun x => x.1.2.1) (fun x s => ((x.1.1, s, ()), ())) (fun x => .sum (.leaf (Unit) (fun t => (Ex.ret, { tm := [(2, V.d (D.bool false))], mem := [] }))) (.leaf (Int) (fun t => (Ex.exit 0, { tm := [(0, V.d (D.sl false 5 x.1.1)), (3, V.d (D.int IntKind.i64 t)), (16, V.d (D.bool false))], mem := [] })))) (fun x => M.spec_TreeOk_l4_C x.1.1) [fe C.spec_FieldsOk] [F.spec_TreeOk_l9] (by rintro _ _ _ _ _ <;> simp only [M.spec_TreeOk_l4_C, nb] <;> rfl)
def M.spec_TreeOk_C {R : Type} (l : List Row) (k : Bool → Option R) : Option R :=
  (M.spec_ShapeOk l).bind fun r52 =>
   (bif !r52 then (k false) else
    ((M.spec_DepthOf l).bind fun r68 =>
     (bif decide (r68 > 40) then (k false) else
      ((M.spec_TreeOk_l4 l 0).bind fun u273 =>
      sumE u273 (fun t269 => (k false)) fun u274 =>
       letE u274 fun t270 => (k true)))))
def M.spec_TreeOk (l : List Row) : Option (Bool) := M.spec_TreeOk_C l some
theorem C.spec_TreeOk : S.spec_TreeOk.ok X0 fun x => M.spec_TreeOk x.1.1 := fnS (fun x => M.spec_TreeOk_C x.1.1) [fe C.spec_ShapeOk, fe C.spec_DepthOf] [F.spec_TreeOk_l4] (by intros; simp only [M.spec_TreeOk_C, nb] <;> rfl)
def M.spec_ProgramOk_C {R : Type} (l : List Row) (k : Bool → Option R) : Option R :=
  (M.spec_TreeOk l).bind fun r275 =>
   (bif r275 then
    ((idx l (IntKind.i64.wrap ((↑l.length : Int) - 1))).bind fun row276 => ((cInt IntKind.i64 row276 0).bind fun n277 => (k (n277 == 45)))) else (k false))
def M.spec_ProgramOk (l : List Row) : Option (Bool) := M.spec_ProgramOk_C l some
theorem C.spec_ProgramOk : S.spec_ProgramOk.ok X0 fun x => M.spec_ProgramOk x.1.1 := fnS (fun x => M.spec_ProgramOk_C x.1.1) [fe C.spec_TreeOk] [] (by intros; simp only [M.spec_ProgramOk_C, nb] <;> rfl)
def M.spec_l6Shift_l8_C {R : Type} (l : List Row) (by' : Int) (i : Int) (x' : List Row) (x'1 : Int) (x'2 : Int) (x'3 : List UInt8) (x'4 : List UInt8) (s : Int × List Row) (kn : Int × List Row → Option R) (ke : Int × List Row → Option R) : Option R := match s with
  | (k', x'5) =>
    (idx l i).bind fun row297 =>
     ((cSl 1 row297 4).bind fun rows298 =>
      (bif decide (k' < (↑rows298.length : Int)) then
       ((idx l i).bind fun row299 =>
        ((cSl 1 row299 4).bind fun rows300 =>
         ((idx rows300 k').bind fun row301 =>
          ((cInt IntKind.i64 row301 0).bind fun n302 =>
           (bif ((x'5.length + [[D.int IntKind.i64 (IntKind.i64.wrap (n302 + by'))]].length) * 8).ble 140737488355328 then
            (bif (x'5.length + [[D.int IntKind.i64 (IntKind.i64.wrap (n302 + by'))]].length).ble 140737488355328 then
             (kn ((IntKind.i64.wrap (k' + 1), x'5 ++ [[D.int IntKind.i64 (IntKind.i64.wrap (n302 + by'))]]))) else none) else none))))) else (ke ((k', x'5)))))
def M.spec_l6Shift_l8_b (l : List Row) (by' : Int) (i : Int) (x' : List Row) (x'1 : Int) (x'2 : Int) (x'3 : List UInt8) (x'4 : List UInt8) (s : Int × List Row) := M.spec_l6Shift_l8_C l by' i x' x'1 x'2 x'3 x'4 s (fun s => some (Sum.inl s)) fun t => some (Sum.inr t)
def M.spec_l6Shift_l8 (l : List Row) (by' : Int) (i : Int) (x' : List Row) (x'1 : Int) (x'2 : Int) (x'3 : List UInt8) (x'4 : List UInt8) (s : Int × List Row) : Option (Int × List Row) := loopM (M.spec_l6Shift_l8_b l by' i x' x'1 x'2 x'3 x'4) s
def F.spec_l6Shift_l8 : LE X0 30 := le 8 (pSt [pAt 0 (pL false 5), pAt 1 pI, pAt 5 (pO 300000 0), pAt 6 pI, pAt 7 (pP 300001 0), pAt 8 pI] [pAt 300000 (cA false false 0 5), pAt 300001 (cB 39 [pI, pI, pS, pS, pO 300002 0]), pAt 300002 (cA false true 0 1)]) (fun x => (x.1.2.2.2.2.2.1, x.2.2.2.1)) (fun x s => ((x.1.1, x.1.2.1, (), x.1.2.2.2.1, (), s.1, ()), (x.2.1, (x.2.2.1.1, x.2.2.1.2.1, x.2.2.1.2.2.1, x.2.2.1.2.2.2.1, (), ()), s.2, ()))) (fun x => .leaf (Int × List Row) (fun t => (Ex.exit 2, { tm := [(0, V.d (D.sl false 5 x.1.1)), (1, V.d (D.int IntKind.i64 x.1.2.1)), (5, V.own 300000 0), (6, V.d (D.int IntKind.i64 x.1.2.2.2.1)), (7, V.ptr 300001 0), (8, V.d (D.int IntKind.i64 t.fst)), (29, V.d (D.bool false))], mem := [(300000, Cell.arr false false 0 5 x.2.1), (300001, Cell.box 39 [V.d (D.int IntKind.i64 x.2.2.1.1), V.d (D.int IntKind.i64 x.2.2.1.2.1), V.d (D.str x.2.2.1.2.2.1), V.d (D.str x.2.2.1.2.2.2.1), V.own 300002 0]), (300002, Cell.arr false true 0 1 t.snd)] }))) (fun x => M.spec_l6Shift_l8_C x.1.1 x.1.2.1 x.1.2.2.2.1 x.2.1 x.2.2.1.1 x.2.2.1.2.1 x.2.2.1.2.2.1 x.2.2.1.2.2.2.1) [] [] (by rintro _ _ ⟨_, _⟩ _ _ <;> simp only [M.spec_l6Shift_l8_C, nb] <;> rfl)
def M.spec_l6Shift_l3_C {R : Type} (l : List Row) (by' : Int) (s : Int × List Row) (kn : Int × List Row → Option R) (ke : Int × List Row → Option R) : Option R := match s with
  | (i, x') =>
    bif decide (i < (↑l.length : Int)) then
     ((idx l i).bind fun row291 =>
      ((cInt IntKind.i64 row291 0).bind fun n292 =>
       ((cInt IntKind.i64 row291 1).bind fun n293 =>
        ((cStr row291 2).bind fun s294 =>
         ((cStr row291 3).bind fun s295 =>
          ((cSl 1 row291 4).bind fun rows296 =>
           ((M.spec_l6Shift_l8 l by' i x' n292 n293 s294 s295 ((0, []))).bind fun t303 =>
            (bif flatRows t303.snd then
             (bif ((x'.length + [[D.int IntKind.i64 n292, D.int IntKind.i64 n293, D.str s294, D.str s295, D.sl true 1 t303.snd]].length) * 72).ble 140737488355328 then
              (bif (x'.length + [[D.int IntKind.i64 n292, D.int IntKind.i64 n293, D.str s294, D.str s295, D.sl true 1 t303.snd]].length).ble 140737488355328 then
               (kn ((IntKind.i64.wrap (i + 1), x' ++ [[D.int IntKind.i64 n292, D.int IntKind.i64 n293, D.str s294, D.str s295, D.sl true 1 t303.snd]]))) else none) else none) else none)))))))) else (ke ((i, x')))
def M.spec_l6Shift_l3_b (l : List Row) (by' : Int) (s : Int × List Row) := M.spec_l6Shift_l3_C l by' s (fun s => some (Sum.inl s)) fun t => some (Sum.inr t)
def M.spec_l6Shift_l3 (l : List Row) (by' : Int) (s : Int × List Row) : Option (Int × List Row) := loopM (M.spec_l6Shift_l3_b l by') s
def F.spec_l6Shift_l3 : LE X0 30 := le 3 (pSt [pAt 0 (pL false 5), pAt 1 pI, pAt 5 (pO 300000 0), pAt 6 pI] [pAt 300000 (cA false false 0 5)]) (fun x => (x.1.2.2.2.1, x.2.1)) (fun x s => ((x.1.1, x.1.2.1, (), s.1, ()), (s.2, ()))) (fun x => .leaf (Int × List Row) (fun t => (Ex.exit 0, { tm := [(0, V.d (D.sl false 5 x.1.1)), (1, V.d (D.int IntKind.i64 x.1.2.1)), (5, V.own 300000 0), (6, V.d (D.int IntKind.i64 t.fst)), (13, V.d (D.bool false))], mem := [(300000, Cell.arr false false 0 5 t.snd)] }))) (fun x => M.spec_l6Shift_l3_C x.1.1 x.1.2.1) [] [F.spec_l6Shift_l8] (by rintro _ _ ⟨_, _⟩ _ _ <;> simp only [M.spec_l6Shift_l3_C, nb] <;> rfl)
def M.spec_l6Shift_C {R : Type} (l : List Row) (by' : Int) (k : List Row → Option R) : Option R :=
  (M.spec_l6Shift_l3 l by' ((0, []))).bind fun t304 => (k t304.snd)
def M.spec_l6Shift (l : List Row) (by' : Int) : Option (List Row) := M.spec_l6Shift_C l by' some
theorem C.spec_l6Shift : S.spec_l6Shift.ok X0 fun x => M.spec_l6Shift x.1.1 x.1.2.1 := fnS (fun x => M.spec_l6Shift_C x.1.1 x.1.2.1) [] [F.spec_l6Shift_l3] (by intros; simp only [M.spec_l6Shift_C, nb] <;> rfl)
def M.spec_l6Part_C {R : Type} (l : List Row) (i : Int) (k : List Row → Option R) : Option R :=
  (M.spec_l6Starts l).bind fun r283 =>
   ((idx r283.fst i).bind fun row284 =>
    (r283.fst[i.toNat]?.bind fun row285 =>
     ((cInt IntKind.i64 row285 0).bind fun n286 =>
      ((cut l n286 (IntKind.i64.wrap (i + 1))).bind fun rows287 =>
       ((idx r283.fst i).bind fun row288 =>
        (r283.fst[i.toNat]?.bind fun row289 =>
         ((cInt IntKind.i64 row289 0).bind fun n290 => ((M.spec_l6Shift rows287 (IntKind.i64.wrap (0 - n290))).bind fun r305 => (k r305)))))))))
def M.spec_l6Part (l : List Row) (i : Int) : Option (List Row) := M.spec_l6Part_C l i some
theorem C.spec_l6Part : S.spec_l6Part.ok X0 fun x => M.spec_l6Part x.1.1 x.1.2.1 := fnS (fun x => M.spec_l6Part_C x.1.1 x.1.2.1) [fe C.spec_l6Starts, fe C.spec_l6Shift] [] (by intros; simp only [M.spec_l6Part_C, nb] <;> rfl)
def M.spec_l45Items_l4_C {R : Type} (l : List Row) (kids : List Row) (s : Int × List Row) (kn : Int × List Row → Option R) (ke : Int × List Row → Option R) : Option R := match s with
  | (k', x') =>
    bif decide (k' < (↑kids.length : Int)) then
     ((idx kids k').bind fun row281 =>
      ((cInt IntKind.i64 row281 0).bind fun n282 =>
       ((M.spec_l6Part l n282).bind fun r306 =>
        (bif ((x'.length + [[D.sl false 5 (fzRows r306)]].length) * 24).ble 140737488355328 then
         (bif (x'.length + [[D.sl false 5 (fzRows r306)]].length).ble 140737488355328 then (kn ((IntKind.i64.wrap (k' + 1), x' ++ [[D.sl false 5 (fzRows r306)]]))) else none) else none)))) else (ke ((k', x')))
def M.spec_l45Items_l4_b (l : List Row) (kids : List Row) (s : Int × List Row) := M.spec_l45Items_l4_C l kids s (fun s => some (Sum.inl s)) fun t => some (Sum.inr t)
def M.spec_l45Items_l4 (l : List Row) (kids : List Row) (s : Int × List Row) : Option (Int × List Row) := loopM (M.spec_l45Items_l4_b l kids) s
def F.spec_l45Items_l4 : LE X0 13 := le 4 (pSt [pAt 0 (pL false 5), pAt 3 (pO 300000 0), pAt 4 (pL false 1), pAt 5 pI] [pAt 300000 (cA false false 0 1)]) (fun x => (x.1.2.2.2.1, x.2.1)) (fun x s => ((x.1.1, (), x.1.2.2.1, s.1, ()), (s.2, ()))) (fun x => .leaf (Int × List Row) (fun t => (Ex.exit 0, { tm := [(0, V.d (D.sl false 5 x.1.1)), (3, V.own 300000 0), (4, V.d (D.sl false 1 x.1.2.2.1)), (5, V.d (D.int IntKind.i64 t.fst)), (17, V.d (D.bool false))], mem := [(300000, Cell.arr false false 0 1 t.snd)] }))) (fun x => M.spec_l45Items_l4_C x.1.1 x.1.2.2.1) [fe C.spec_l6Part] [] (by rintro _ _ ⟨_, _⟩ _ _ <;> simp only [M.spec_l45Items_l4_C, nb] <;> rfl)
def M.spec_l45Items_C {R : Type} (l : List Row) (k : List Row → Option R) : Option R :=
  (idx l (IntKind.i64.wrap ((↑l.length : Int) - 1))).bind fun row279 =>
   ((cSl 1 row279 4).bind fun rows280 => ((M.spec_l45Items_l4 l rows280 ((0, []))).bind fun t307 => (k t307.snd)))
def M.spec_l45Items (l : List Row) : Option (List Row) := M.spec_l45Items_C l some
theorem C.spec_l45Items : S.spec_l45Items.ok X0 fun x => M.spec_l45Items x.1.1 := fnS (fun x => M.spec_l45Items_C x.1.1) [] [F.spec_l45Items_l4] (by intros; simp only [M.spec_l45Items_C, nb] <;> rfl)
def M.spec_l45Key_C {R : Type} (x' : List Row) (k : List UInt8 → Option R) : Option R :=
  (idx x' (IntKind.i64.wrap ((↑x'.length : Int) - 1))).bind fun row315 =>
   ((cInt IntKind.i64 row315 0).bind fun n316 =>
    ((cInt IntKind.i64 row315 1).bind fun n317 =>
     ((cStr row315 2).bind fun s318 =>
      ((cStr row315 3).bind fun s319 => ((cSl 1 row315 4).bind fun rows320 => (bif n316 != 44 then (k []) else (k s318)))))))
def M.spec_l45Key (x' : List Row) : Option (List UInt8) := M.spec_l45Key_C x' some
theorem C.spec_l45Key : S.spec_l45Key.ok X0 fun x => M.spec_l45Key x.1.1 := fnS (fun x => M.spec_l45Key_C x.1.1) [] [] (by intros; simp only [M.spec_l45Key_C, nb] <;> rfl)
def M.spec_l6Make_l4_C {R : Type} (parts : List Row) (x' : Int) (x'1 : Int) (x'2 : List UInt8) (x'3 : List UInt8) (s : Int × List Row × List Row) (kn : Int × List Row × List Row → Option R) (ke : Int × List Row × List Row → Option R) : Option R := match s with
  | (k', x'4, x'5) =>
    bif decide (k' < (↑parts.length : Int)) then
     ((idx parts k').bind fun row332 =>
      ((cSl 5 row332 0).bind fun rows333 =>
       ((M.spec_l6Shift rows333 ((↑x'4.length : Int))).bind fun r334 =>
        (bif ((x'4.length + r334.length) * 72).ble 140737488355328 then
         (bif (x'4.length + r334.length).ble 140737488355328 then
          (bif ((x'5.length + [[D.int IntKind.i64 (IntKind.i64.wrap ((↑(x'4 ++ r334).length : Int) - 1))]].length) * 8).ble 140737488355328 then
           (bif (x'5.length + [[D.int IntKind.i64 (IntKind.i64.wrap ((↑(x'4 ++ r334).length : Int) - 1))]].length).ble 140737488355328 then
            (kn ((IntKind.i64.wrap (k' + 1), x'4 ++ r334, x'5 ++ [[D.int IntKind.i64 (IntKind.i64.wrap ((↑(x'4 ++ r334).length : Int) - 1))]]))) else none) else none) else none) else none)))) else (ke ((k', x'4, x'5)))
def M.spec_l6Make_l4_b (parts : List Row) (x' : Int) (x'1 : Int) (x'2 : List UInt8) (x'3 : List UInt8) (s : Int × List Row × List Row) := M.spec_l6Make_l4_C parts x' x'1 x'2 x'3 s (fun s => some (Sum.inl s)) fun t => some (Sum.inr t)
def M.spec_l6Make_l4 (parts : List Row) (x' : Int) (x'1 : Int) (x'2 : List UInt8) (x'3 : List UInt8) (s : Int × List Row × List Row) : Option (Int × List Row × List Row) := loopM (M.spec_l6Make_l4_b parts x' x'1 x'2 x'3) s
def F.spec_l6Make_l4 : LE X0 15 := le 4 (pSt [pAt 1 (pL false 1), pAt 2 (pP 300000 0), pAt 5 (pO 300001 0), pAt 6 pI] [pAt 300000 (cB 39 [pI, pI, pS, pS, pO 300002 0]), pAt 300001 (cA false false 0 5), pAt 300002 (cA false true 0 1)]) (fun x => (x.1.2.2.2.1, x.2.2.1, x.2.2.2.1)) (fun x s => ((x.1.1, (), (), s.1, ()), ((x.2.1.1, x.2.1.2.1, x.2.1.2.2.1, x.2.1.2.2.2.1, (), ()), s.2.1, s.2.2, ()))) (fun x => .leaf (Int × List Row × List Row) (fun t => (Ex.exit 0, { tm := [(1, V.d (D.sl false 1 x.1.1)), (2, V.ptr 300000 0), (5, V.own 300001 0), (6, V.d (D.int IntKind.i64 t.fst)), (13, V.d (D.bool false))], mem := [(300000, Cell.box 39 [V.d (D.int IntKind.i64 x.2.1.1), V.d (D.int IntKind.i64 x.2.1.2.1), V.d (D.str x.2.1.2.2.1), V.d (D.str x.2.1.2.2.2.1), V.own 300002 0]), (300001, Cell.arr false false 0 5 t.snd.fst), (300002, Cell.arr false true 0 1 t.snd.snd)] }))) (fun x => M.spec_l6Make_l4_C x.1.1 x.2.1.1 x.2.1.2.1 x.2.1.2.2.1 x.2.1.2.2.2.1) [fe C.spec_l6Shift] [] (by rintro _ _ ⟨_, _, _⟩ _ _ <;> simp only [M.spec_l6Make_l4_C, nb] <;> rfl)
def M.spec_l6Make_C {R : Type} (n' : Int) (n'1 : Int) (n'2 : List UInt8) (n'3 : List UInt8) (n'4 : List Row) (parts : List Row) (k : List Row → Option R) : Option R :=
  (M.spec_l6Make_l4 parts n' n'1 n'2 n'3 ((0, [], []))).bind fun t335 =>
   (bif flatRows t335.snd.snd then
    (bif ((t335.snd.fst.length + [[D.int IntKind.i64 n', D.int IntKind.i64 n'1, D.str n'2, D.str n'3, D.sl true 1 t335.snd.snd]].length) * 72).ble 140737488355328 then
     (bif (t335.snd.fst.length + [[D.int IntKind.i64 n', D.int IntKind.i64 n'1, D.str n'2, D.str n'3, D.sl true 1 t335.snd.snd]].length).ble 140737488355328 then
      (k (t335.snd.fst ++ [[D.int IntKind.i64 n', D.int IntKind.i64 n'1, D.str n'2, D.str n'3, D.sl true 1 t335.snd.snd]])) else none) else none) else none)
def M.spec_l6Make (n' : Int) (n'1 : Int) (n'2 : List UInt8) (n'3 : List UInt8) (n'4 : List Row) (parts : List Row) : Option (List Row) := M.spec_l6Make_C n' n'1 n'2 n'3 n'4 parts some
theorem C.spec_l6Make : S.spec_l6Make.ok X0 fun x => M.spec_l6Make x.1.1.1 x.1.1.2.1 x.1.1.2.2.1 x.1.1.2.2.2.1 x.1.1.2.2.2.2.1 x.1.2.1 := fnS (fun x => M.spec_l6Make_C x.1.1.1 x.1.1.2.1 x.1.1.2.2.1 x.1.1.2.2.2.1 x.1.1.2.2.2.2.1 x.1.2.1) [] [F.spec_l6Make_l4] (by intros; simp only [M.spec_l6Make_C, nb] <;> rfl)
def M.spec_SortFuncs_l9_C {R : Type} (i : Int) (x' : List Row) (s : Int × List Row) (kn : Int × List Row → Option R) (ke : Int × List Row → Option R) : Option R := match s with
  | (k', x'1) =>
    bif decide (k' > 0) then
     ((idx x'1 (IntKind.i64.wrap (k' - 1))).bind fun row312 =>
      ((x'1[(IntKind.i64.wrap (k' - 1)).toNat]?).bind fun row313 =>
       ((cRo 5 row313 0).bind fun rows314 =>
        ((M.spec_l45Key rows314).bind fun r321 =>
         ((M.spec_l45Key x').bind fun r322 =>
          (bif !(Op.bytesLess r321 r322 || r321 == r322) then
           ((idx x'1 (IntKind.i64.wrap (k' - 1))).bind fun row323 =>
            ((x'1[(IntKind.i64.wrap (k' - 1)).toNat]?).bind fun row324 =>
             ((cRo 5 row324 0).bind fun rows325 =>
              ((idx x'1 k').bind fun row326 =>
               (x'1[k'.toNat]?.bind fun row327 =>
                (kn ((IntKind.i64.wrap (k' - 1), x'1.set k'.toNat (splice row327 0 [D.sl false 5 rows325]))))))))) else (ke ((k', x'1))))))))) else (ke ((k', x'1)))
def M.spec_SortFuncs_l9_b (i : Int) (x' : List Row) (s : Int × List Row) := M.spec_SortFuncs_l9_C i x' s (fun s => some (Sum.inl s)) fun t => some (Sum.inr t)
def M.spec_SortFuncs_l9 (i : Int) (x' : List Row) (s : Int × List Row) : Option (Int × List Row) := loopM (M.spec_SortFuncs_l9_b i x') s
def F.spec_SortFuncs_l9 : LE X0 5 := le 9 (pSt [pAt 3 (pO 300000 0), pAt 4 pI, pAt 5 (pL false 5), pAt 6 pI] [pAt 300000 (cA false false 0 1)]) (fun x => (x.1.2.2.2.1, x.2.1)) (fun x s => (((), x.1.2.1, x.1.2.2.1, s.1, ()), (s.2, ()))) (fun x => .leaf (Int × List Row) (fun t => (Ex.exit 2, { tm := [(3, V.own 300000 0), (4, V.d (D.int IntKind.i64 x.1.2.1)), (5, V.d (D.sl false 5 x.1.2.2.1)), (6, V.d (D.int IntKind.i64 t.fst)), (36, V.d (D.bool false))], mem := [(300000, Cell.arr false false 0 1 t.snd)] }))) (fun x => M.spec_SortFuncs_l9_C x.1.2.1 x.1.2.2.1) [fe C.spec_l45Key] [] (by rintro _ _ ⟨_, _⟩ _ _ <;> simp only [M.spec_SortFuncs_l9_C, nb] <;> rfl)
def M.spec_SortFuncs_l5_C {R : Type} (s : Int × List Row) (kn : Int × List Row → Option R) (ke : Int × List Row → Option R) : Option R := match s with
  | (i, x') =>
    bif decide (i < (↑x'.length : Int)) then
     ((idx x' i).bind fun row309 =>
      (x'[i.toNat]?.bind fun row310 =>
       ((cRo 5 row310 0).bind fun rows311 =>
        ((M.spec_SortFuncs_l9 i rows311 ((i, x'))).bind fun t328 =>
         ((idx t328.snd t328.fst).bind fun row329 =>
          (t328.snd[t328.fst.toNat]?.bind fun row330 =>
           (kn ((IntKind.i64.wrap (i + 1), t328.snd.set t328.fst.toNat (splice row330 0 [D.sl false 5 rows311])))))))))) else (ke ((i, x')))
def M.spec_SortFuncs_l5_b (s : Int × List Row) := M.spec_SortFuncs_l5_C s (fun s => some (Sum.inl s)) fun t => some (Sum.inr t)
def M.spec_SortFuncs_l5 (s : Int × List Row) : Option (Int × List Row) := loopM (M.spec_SortFuncs_l5_b) s
def F.spec_SortFuncs_l5 : LE X0 5 := le 5 (pSt [pAt 3 (pO 300000 0), pAt 4 pI] [pAt 300000 (cA false false 0 1)]) (fun x => (x.1.2.1, x.2.1)) (fun x s => (((), s.1, ()), (s.2, ()))) (fun x => .leaf (Int × List Row) (fun t => (Ex.exit 0, { tm := [(3, V.own 300000 0), (4, V.d (D.int IntKind.i64 t.fst)), (16, V.d (D.bool false))], mem := [(300000, Cell.arr false false 0 1 t.snd)] }))) (fun x => M.spec_SortFuncs_l5_C) [] [F.spec_SortFuncs_l9] (by rintro _ _ ⟨_, _⟩ _ _ <;> simp only [M.spec_SortFuncs_l5_C, nb] <;> rfl)
def M.spec_SortFuncs_C {R : Type} (l : List Row) (k : List Row → Option R) : Option R :=
  (M.spec_ProgramOk l).bind fun r278 =>
   (bif !r278 then (k []) else
    ((M.spec_l45Items l).bind fun r308 =>
     ((M.spec_SortFuncs_l5 ((1, r308))).bind fun t331 =>
      ((M.spec_l6Make 45 0 [] [] [] (fzRows t331.snd)).bind fun r336 => (bif [[D.sl true 5 r336]].all pureRow then (k r336) else none)))))
def M.spec_SortFuncs (l : List Row) : Option (List Row) := M.spec_SortFuncs_C l some
theorem C.spec_SortFuncs : S.spec_SortFuncs.ok X0 fun x => M.spec_SortFuncs x.1.1 := fnS (fun x => M.spec_SortFuncs_C x.1.1) [fe C.spec_ProgramOk, fe C.spec_l45Items, fe C.spec_l6Make] [F.spec_SortFuncs_l5] (by intros; simp only [M.spec_SortFuncs_C, nb] <;> rfl)
theorem C.impl_startsOf : S.impl_startsOf.ok X0 fun x => M.impl_startsOf x.1.1 := Sig.prim (p := Prim.impl_startsOf)
def M.impl_ShapeOk_C {R : Type} (l : List Row) (k : Bool → Option R) : Option R :=
  (M.impl_startsOf l).bind fun r339 => (k r339.snd)
def M.impl_ShapeOk (l : List Row) : Option (Bool) := M.impl_ShapeOk_C l some
theorem C.impl_ShapeOk : S.impl_ShapeOk.ok X0 fun x => M.impl_ShapeOk x.1.1 := fnS (fun x => M.impl_ShapeOk_C x.1.1) [fe C.impl_startsOf] [] (by intros; simp only [M.impl_ShapeOk_C, nb] <;> rfl)
def M.impl_within_C {R : Type} (n' : Int) (low : Int) (high : Int) (k : Bool → Option R) : Option R :=
  bif decide (n' ≥ low) then (k (decide (n' ≤ high))) else (k false)
def M.impl_within (n' : Int) (low : Int) (high : Int) : Option (Bool) := M.impl_within_C n' low high some
theorem C.impl_within : S.impl_within.ok X0 fun x => M.impl_within x.1.1 x.1.2.1 x.1.2.2.1 := fnS (fun x => M.impl_within_C x.1.1 x.1.2.1 x.1.2.2.1) [] [] (by intros; simp only [M.impl_within_C, nb] <;> rfl)
def M.impl_IsExpr_C {R : Type} (kind : Int) (k : Bool → Option R) : Option R :=
  (M.impl_within kind 1 15).bind fun r347 => (k r347)
def M.impl_IsExpr (kind : Int) : Option (Bool) := M.impl_IsExpr_C kind some
theorem C.impl_IsExpr : S.impl_IsExpr.ok X0 fun x => M.impl_IsExpr x.1.1 := fnS (fun x => M.impl_IsExpr_C x.1.1) [fe C.impl_within] [] (by intros; simp only [M.impl_IsExpr_C, nb] <;> rfl)
def M.impl_IsLetter_C {R : Type} (b : Int) (k : Bool → Option R) : Option R :=
  bif decide (b ≥ 97) then
   (bif decide (b ≤ 122) then (k true) else
    (bif decide (b ≥ 65) then (bif decide (b ≤ 90) then (k true) else (k (b == 95))) else (k (b == 95)))) else
   (bif decide (b ≥ 65) then (bif decide (b ≤ 90) then (k true) else (k (b == 95))) else (k (b == 95)))
def M.impl_IsLetter (b : Int) : Option (Bool) := M.impl_IsLetter_C b some
theorem C.impl_IsLetter : S.impl_IsLetter.ok X0 fun x => M.impl_IsLetter x.1.1 := fnS (fun x => M.impl_IsLetter_C x.1.1) [] [] (by intros; simp only [M.impl_IsLetter_C, nb] <;> rfl)
def M.impl_IsDigit_C {R : Type} (b : Int) (k : Bool → Option R) : Option R :=
  bif decide (b ≥ 48) then (k (decide (b ≤ 57))) else (k false)
def M.impl_IsDigit (b : Int) : Option (Bool) := M.impl_IsDigit_C b some
theorem C.impl_IsDigit : S.impl_IsDigit.ok X0 fun x => M.impl_IsDigit x.1.1 := fnS (fun x => M.impl_IsDigit_C x.1.1) [] [] (by intros; simp only [M.impl_IsDigit_C, nb] <;> rfl)
def M.impl_IsWordByte_C {R : Type} (b : Int) (k : Bool → Option R) : Option R :=
  (M.impl_IsLetter b).bind fun r350 => (bif r350 then (k true) else ((M.impl_IsDigit b).bind fun r351 => (k r351)))
def M.impl_IsWordByte (b : Int) : Option (Bool) := M.impl_IsWordByte_C b some
theorem C.impl_IsWordByte : S.impl_IsWordByte.ok X0 fun x => M.impl_IsWordByte x.1.1 := fnS (fun x => M.impl_IsWordByte_C x.1.1) [fe C.impl_IsLetter, fe C.impl_IsDigit] [] (by intros; simp only [M.impl_IsWordByte_C, nb] <;> rfl)
def M.impl_NameShape_l2_C {R : Type} (s' : List UInt8) (v5 : Int) (s : Int) (kn : Int → Option R) (ke : (Unit) ⊕ (Int) → Option R) : Option R := match s with
  | v6 =>
    bif decide (v6 < v5) then
     ((idx s' v6).bind fun c349 =>
      ((M.impl_IsWordByte (IntKind.i64.wrap (↑c349.toNat : Int))).bind fun r352 => (bif !r352 then (ke (.inl ())) else (kn (IntKind.i64.wrap (v6 + 1)))))) else (ke (.inr v6))
def M.impl_NameShape_l2_b (s' : List UInt8) (v5 : Int) (s : Int) := M.impl_NameShape_l2_C s' v5 s (fun s => some (Sum.inl s)) fun t => some (Sum.inr t)
def M.impl_NameShape_l2 (s' : List UInt8) (v5 : Int) (s : Int) : Option ((Unit) ⊕ (Int)) := loopM (M.impl_NameShape_l2_b s' v5) s
def F.impl_NameShape_l2 : LE X0 90 := le 2 (pSt [pAt 0 pS, pAt 5 pI, pAt 6 pI] []) (fun x => x.1.2.2.1) (fun x s => ((x.1.1, x.1.2.1, s, ()), ())) (fun x => .sum (.leaf (Unit) (fun t => (Ex.ret, { tm := [(2, V.d (D.bool false))], mem := [] }))) (.leaf (Int) (fun t => (Ex.exit 0, { tm := [(0, V.d (D.str x.1.1)), (5, V.d (D.int IntKind.i64 x.1.2.1)), (6, V.d (D.int IntKind.i64 t)), (7, V.d (D.bool false))], mem := [] })))) (fun x => M.impl_NameShape_l2_C x.1.1 x.1.2.1) [fe C.impl_IsWordByte] [] (by rintro _ _ _ _ _ <;> simp only [M.impl_NameShape_l2_C, nb] <;> rfl)
def M.impl_NameShape_C {R : Type} (s' : List UInt8) (k : Bool → Option R) : Option R :=
  (M.impl_NameShape_l2 s' ((↑s'.length : Int)) 0).bind fun u358 =>
  sumE u358 (fun t353 => (k false)) fun u359 =>
   letE u359 fun t354 =>
    ((M.impl_within ((↑s'.length : Int)) 1 12).bind fun r355 =>
     (bif r355 then
      ((idx s' 0).bind fun c356 => ((M.impl_IsLetter (IntKind.i64.wrap (↑c356.toNat : Int))).bind fun r357 => (k r357))) else (k false)))
def M.impl_NameShape (s' : List UInt8) : Option (Bool) := M.impl_NameShape_C s' some
theorem C.impl_NameShape : S.impl_NameShape.ok X0 fun x => M.impl_NameShape x.1.1 := fnS (fun x => M.impl_NameShape_C x.1.1) [fe C.impl_within, fe C.impl_IsLetter] [F.impl_NameShape_l2] (by intros; simp only [M.impl_NameShape_C, nb] <;> rfl)
def M.slices_Index_l2_C {R : Type} (s' : List Row) (v : List UInt8) (v7 : Int) (s : Int) (kn : Int → Option R) (ke : (Int) ⊕ (Int) → Option R) : Option R := match s with
  | v8 =>
    bif decide (v8 < v7) then
     ((idx s' v8).bind fun row361 =>
      ((cStr row361 0).bind fun s362 => (bif v == s362 then (ke (.inl v8)) else (kn (IntKind.i64.wrap (v8 + 1)))))) else (ke (.inr v8))
def M.slices_Index_l2_b (s' : List Row) (v : List UInt8) (v7 : Int) (s : Int) := M.slices_Index_l2_C s' v v7 s (fun s => some (Sum.inl s)) fun t => some (Sum.inr t)
def M.slices_Index_l2 (s' : List Row) (v : List UInt8) (v7 : Int) (s : Int) : Option ((Int) ⊕ (Int)) := loopM (M.slices_Index_l2_b s' v v7) s
def F.slices_Index_l2 : LE X0 97 := le 2 (pSt [pAt 0 (pL false 1), pAt 1 pS, pAt 7 pI, pAt 8 pI] []) (fun x => x.1.2.2.2.1) (fun x s => ((x.1.1, x.1.2.1, x.1.2.2.1, s, ()), ())) (fun x => .sum (.leaf (Int) (fun t => (Ex.ret, { tm := [(4, V.d (D.int IntKind.i64 t))], mem := [] }))) (.leaf (Int) (fun t => (Ex.exit 0, { tm := [(0, V.d (D.sl false 1 x.1.1)), (1, V.d (D.str x.1.2.1)), (7, V.d (D.int IntKind.i64 x.1.2.2.1)), (8, V.d (D.int IntKind.i64 t)), (9, V.d (D.bool false))], mem := [] })))) (fun x => M.slices_Index_l2_C x.1.1 x.1.2.1 x.1.2.2.1) [] [] (by rintro _ _ _ _ _ <;> simp only [M.slices_Index_l2_C, nb] <;> rfl)
def M.slices_Index_C {R : Type} (s' : List Row) (v : List UInt8) (k : Int → Option R) : Option R :=
  (M.slices_Index_l2 s' v ((↑s'.length : Int)) 0).bind fun u365 =>
  sumE u365 (fun t363 => (k t363)) fun u366 =>
   letE u366 fun t364 => (k (-1))
def M.slices_Index (s' : List Row) (v : List UInt8) : Option (Int) := M.slices_Index_C s' v some
theorem C.slices_Index : S.slices_Index.ok X0 fun x => M.slices_Index x.1.1 x.1.2.1 := fnS (fun x => M.slices_Index_C x.1.1 x.1.2.1) [] [F.slices_Index_l2] (by intros; simp only [M.slices_Index_C, nb] <;> rfl)
def M.impl_KeywordOf_C {R : Type} (s' : List UInt8) (k : Int → Option R) : Option R :=
  (M.slices_Index (List.map (fun x => [x]) keywordsRow) s').bind fun r367 => (bif decide (r367 < 0) then (k 0) else (k (IntKind.i64.wrap (10 + r367))))
def M.impl_KeywordOf (s' : List UInt8) : Option (Int) := M.impl_KeywordOf_C s' some
theorem C.impl_KeywordOf : S.impl_KeywordOf.ok X0 fun x => M.impl_KeywordOf x.1.1 := fnS (fun x => M.impl_KeywordOf_C x.1.1) [fe C.slices_Index] [] (by intros; simp only [M.impl_KeywordOf_C, nb] <;> rfl)
def M.slices_Contains_C {R : Type} (s' : List Row) (v : List UInt8) (k : Bool → Option R) : Option R :=
  (M.slices_Index s' v).bind fun r369 => (k (decide (r369 ≥ 0)))
def M.slices_Contains (s' : List Row) (v : List UInt8) : Option (Bool) := M.slices_Contains_C s' v some
theorem C.slices_Contains : S.slices_Contains.ok X0 fun x => M.slices_Contains x.1.1 x.1.2.1 := fnS (fun x => M.slices_Contains_C x.1.1 x.1.2.1) [fe C.slices_Index] [] (by intros; simp only [M.slices_Contains_C, nb] <;> rfl)
def M.impl_IsBuiltin_C {R : Type} (s' : List UInt8) (k : Bool → Option R) : Option R :=
  (M.slices_Contains (List.map (fun x => [x]) builtinsRow) s').bind fun r370 => (k r370)
def M.impl_IsBuiltin (s' : List UInt8) : Option (Bool) := M.impl_IsBuiltin_C s' some
theorem C.impl_IsBuiltin : S.impl_IsBuiltin.ok X0 fun x => M.impl_IsBuiltin x.1.1 := fnS (fun x => M.impl_IsBuiltin_C x.1.1) [fe C.slices_Contains] [] (by intros; simp only [M.impl_IsBuiltin_C, nb] <;> rfl)
def M.impl_NameOk_C {R : Type} (s' : List UInt8) (k : Bool → Option R) : Option R :=
  (M.impl_NameShape s').bind fun r360 =>
   (bif r360 then
    ((M.impl_KeywordOf s').bind fun r368 => (bif r368 == 0 then ((M.impl_IsBuiltin s').bind fun r371 => (k !r371)) else (k false))) else (k false))
def M.impl_NameOk (s' : List UInt8) : Option (Bool) := M.impl_NameOk_C s' some
theorem C.impl_NameOk : S.impl_NameOk.ok X0 fun x => M.impl_NameOk x.1.1 := fnS (fun x => M.impl_NameOk_C x.1.1) [fe C.impl_NameShape, fe C.impl_KeywordOf, fe C.impl_IsBuiltin] [] (by intros; simp only [M.impl_NameOk_C, nb] <;> rfl)
theorem C.strings_Contains : S.strings_Contains.ok X0 fun x => M.strings_Contains x.1.1 x.1.2.1 := Sig.prim (p := Prim.strings_Contains)
def M.impl_byteAt_C {R : Type} (s' : List UInt8) (at' : Int) (k : Int → Option R) : Option R :=
  (M.impl_within at' 0 (IntKind.i64.wrap ((↑s'.length : Int) - 1))).bind fun r377 =>
   (bif !r377 then (k (-1)) else ((idx s' at').bind fun c378 => (k (IntKind.i64.wrap (↑c378.toNat : Int)))))
def M.impl_byteAt (s' : List UInt8) (at' : Int) : Option (Int) := M.impl_byteAt_C s' at' some
theorem C.impl_byteAt : S.impl_byteAt.ok X0 fun x => M.impl_byteAt x.1.1 x.1.2.1 := fnS (fun x => M.impl_byteAt_C x.1.1 x.1.2.1) [fe C.impl_within] [] (by intros; simp only [M.impl_byteAt_C, nb] <;> rfl)
def M.impl_digitsEnd_l1_C {R : Type} (s' : List UInt8) (s : Int) (kn : Int → Option R) (ke : Int → Option R) : Option R := match s with
  | at' =>
    (M.impl_byteAt s' at').bind fun r379 =>
     ((M.impl_IsDigit r379).bind fun r380 => (bif r380 then (kn (IntKind.i64.wrap (at' + 1))) else (ke at')))
def M.impl_digitsEnd_l1_b (s' : List UInt8) (s : Int) := M.impl_digitsEnd_l1_C s' s (fun s => some (Sum.inl s)) fun t => some (Sum.inr t)
def M.impl_digitsEnd_l1 (s' : List UInt8) (s : Int) : Option (Int) := loopM (M.impl_digitsEnd_l1_b s') s
def F.impl_digitsEnd_l1 : LE X0 108 := le 1 (pSt [pAt 0 pS, pAt 1 pI] []) (fun x => x.1.2.1) (fun x s => ((x.1.1, s, ()), ())) (fun x => .leaf (Int) (fun t => (Ex.exit 0, { tm := [(0, V.d (D.str x.1.1)), (1, V.d (D.int IntKind.i64 t)), (8, V.d (D.bool false))], mem := [] }))) (fun x => M.impl_digitsEnd_l1_C x.1.1) [fe C.impl_byteAt, fe C.impl_IsDigit] [] (by rintro _ _ _ _ _ <;> simp only [M.impl_digitsEnd_l1_C, nb] <;> rfl)
def M.impl_digitsEnd_C {R : Type} (s' : List UInt8) (at' : Int) (k : Int → Option R) : Option R :=
  (M.impl_digitsEnd_l1 s' at').bind fun t381 => (k t381)
def M.impl_digitsEnd (s' : List UInt8) (at' : Int) : Option (Int) := M.impl_digitsEnd_C s' at' some
theorem C.impl_digitsEnd : S.impl_digitsEnd.ok X0 fun x => M.impl_digitsEnd x.1.1 x.1.2.1 := fnS (fun x => M.impl_digitsEnd_C x.1.1 x.1.2.1) [] [F.impl_digitsEnd_l1] (by intros; simp only [M.impl_digitsEnd_C, nb] <;> rfl)
def M.impl_NumEnd_C {R : Type} (s' : List UInt8) (at' : Int) (k : Int → Option R) : Option R :=
  (M.impl_within at' 0 (IntKind.i64.wrap ((↑s'.length : Int) - 1))).bind fun r376 =>
   (bif !r376 then (k (-1)) else
    ((M.impl_digitsEnd s' at').bind fun r382 =>
     ((M.impl_byteAt s' r382).bind fun r383 =>
      (bif r383 == 46 then
       ((M.impl_digitsEnd s' (IntKind.i64.wrap (r382 + 1))).bind fun r384 =>
        (bif IntKind.i64.wrap (IntKind.i64.wrap (r382 - at') + IntKind.i64.wrap (IntKind.i64.wrap (r384 - r382) - 1)) == 0 then (k (-1)) else
         ((M.impl_byteAt s' r384).bind fun r385 =>
          (bif r385 == 101 then
           ((M.impl_byteAt s' (IntKind.i64.wrap (r384 + 1))).bind fun r386 =>
            (bif r386 == 43 then
             ((M.impl_digitsEnd s' (IntKind.i64.wrap (IntKind.i64.wrap (r384 + 1) + 1))).bind fun r387 =>
              (bif decide (r387 > IntKind.i64.wrap (IntKind.i64.wrap (r384 + 1) + 1)) then (k r387) else (k r384))) else
             (bif r386 == 45 then
              ((M.impl_digitsEnd s' (IntKind.i64.wrap (IntKind.i64.wrap (r384 + 1) + 1))).bind fun r388 =>
               (bif decide (r388 > IntKind.i64.wrap (IntKind.i64.wrap (r384 + 1) + 1)) then (k r388) else (k r384))) else
              ((M.impl_digitsEnd s' (IntKind.i64.wrap (r384 + 1))).bind fun r389 => (bif decide (r389 > IntKind.i64.wrap (r384 + 1)) then (k r389) else (k r384)))))) else
           (bif r385 == 69 then
            ((M.impl_byteAt s' (IntKind.i64.wrap (r384 + 1))).bind fun r390 =>
             (bif r390 == 43 then
              ((M.impl_digitsEnd s' (IntKind.i64.wrap (IntKind.i64.wrap (r384 + 1) + 1))).bind fun r391 =>
               (bif decide (r391 > IntKind.i64.wrap (IntKind.i64.wrap (r384 + 1) + 1)) then (k r391) else (k r384))) else
              (bif r390 == 45 then
               ((M.impl_digitsEnd s' (IntKind.i64.wrap (IntKind.i64.wrap (r384 + 1) + 1))).bind fun r392 =>
                (bif decide (r392 > IntKind.i64.wrap (IntKind.i64.wrap (r384 + 1) + 1)) then (k r392) else (k r384))) else
               ((M.impl_digitsEnd s' (IntKind.i64.wrap (r384 + 1))).bind fun r393 => (bif decide (r393 > IntKind.i64.wrap (r384 + 1)) then (k r393) else (k r384)))))) else (k r384)))))) else
       (bif IntKind.i64.wrap (r382 - at') == 0 then (k (-1)) else
        ((M.impl_byteAt s' r382).bind fun r394 =>
         (bif r394 == 101 then
          ((M.impl_byteAt s' (IntKind.i64.wrap (r382 + 1))).bind fun r395 =>
           (bif r395 == 43 then
            ((M.impl_digitsEnd s' (IntKind.i64.wrap (IntKind.i64.wrap (r382 + 1) + 1))).bind fun r396 =>
             (bif decide (r396 > IntKind.i64.wrap (IntKind.i64.wrap (r382 + 1) + 1)) then (k r396) else (k r382))) else
            (bif r395 == 45 then
             ((M.impl_digitsEnd s' (IntKind.i64.wrap (IntKind.i64.wrap (r382 + 1) + 1))).bind fun r397 =>
              (bif decide (r397 > IntKind.i64.wrap (IntKind.i64.wrap (r382 + 1) + 1)) then (k r397) else (k r382))) else
             ((M.impl_digitsEnd s' (IntKind.i64.wrap (r382 + 1))).bind fun r398 => (bif decide (r398 > IntKind.i64.wrap (r382 + 1)) then (k r398) else (k r382)))))) else
          (bif r394 == 69 then
           ((M.impl_byteAt s' (IntKind.i64.wrap (r382 + 1))).bind fun r399 =>
            (bif r399 == 43 then
             ((M.impl_digitsEnd s' (IntKind.i64.wrap (IntKind.i64.wrap (r382 + 1) + 1))).bind fun r400 =>
              (bif decide (r400 > IntKind.i64.wrap (IntKind.i64.wrap (r382 + 1) + 1)) then (k r400) else (k r382))) else
             (bif r399 == 45 then
              ((M.impl_digitsEnd s' (IntKind.i64.wrap (IntKind.i64.wrap (r382 + 1) + 1))).bind fun r401 =>
               (bif decide (r401 > IntKind.i64.wrap (IntKind.i64.wrap (r382 + 1) + 1)) then (k r401) else (k r382))) else
              ((M.impl_digitsEnd s' (IntKind.i64.wrap (r382 + 1))).bind fun r402 => (bif decide (r402 > IntKind.i64.wrap (r382 + 1)) then (k r402) else (k r382)))))) else (k r382)))))))))
def M.impl_NumEnd (s' : List UInt8) (at' : Int) : Option (Int) := M.impl_NumEnd_C s' at' some
theorem C.impl_NumEnd : S.impl_NumEnd.ok X0 fun x => M.impl_NumEnd x.1.1 x.1.2.1 := fnS (fun x => M.impl_NumEnd_C x.1.1 x.1.2.1) [fe C.impl_within, fe C.impl_digitsEnd, fe C.impl_byteAt] [] (by intros; unfold M.impl_NumEnd_C; repeat' first | with_reducible apply nbif | with_reducible apply nbb | with_reducible apply nbo | with_reducible apply nbs | with_reducible apply nbl | (intro _) | apply nbif | rfl)
def M.impl_quotedEnd_l4_C {R : Type} (s' : List UInt8) (quote : Int) (s : Int) (kn : Int → Option R) (ke : (Int) ⊕ (Int) → Option R) : Option R := match s with
  | i =>
    bif decide (i < (↑s'.length : Int)) then
     ((idx s' i).bind fun c405 =>
      (bif (↑c405.toNat : Int) != 10 then
       ((idx s' i).bind fun c406 =>
        (bif IntKind.i64.wrap (↑c406.toNat : Int) == quote then (ke (.inl (IntKind.i64.wrap (i + 1)))) else
         ((idx s' i).bind fun c407 =>
          (bif (↑c407.toNat : Int) == 92 then
           ((M.impl_byteAt s' (IntKind.i64.wrap (i + 1))).bind fun r408 =>
            (bif r408 != 10 then (kn (IntKind.i64.wrap (IntKind.i64.wrap (i + 1) + 1))) else (kn (IntKind.i64.wrap (i + 1))))) else (kn (IntKind.i64.wrap (i + 1))))))) else (ke (.inr i)))) else (ke (.inr i))
def M.impl_quotedEnd_l4_b (s' : List UInt8) (quote : Int) (s : Int) := M.impl_quotedEnd_l4_C s' quote s (fun s => some (Sum.inl s)) fun t => some (Sum.inr t)
def M.impl_quotedEnd_l4 (s' : List UInt8) (quote : Int) (s : Int) : Option ((Int) ⊕ (Int)) := loopM (M.impl_quotedEnd_l4_b s' quote) s
def F.impl_quotedEnd_l4 : LE X0 110 := le 4 (pSt [pAt 0 pS, pAt 2 pI, pAt 7 pI] []) (fun x => x.1.2.2.1) (fun x s => ((x.1.1, x.1.2.1, s, ()), ())) (fun x => .sum (.leaf (Int) (fun t => (Ex.ret, { tm := [(6, V.d (D.int IntKind.i64 t))], mem := [] }))) (.leaf (Int) (fun t => (Ex.exit 0, { tm := [(0, V.d (D.str x.1.1)), (2, V.d (D.int IntKind.i64 x.1.2.1)), (7, V.d (D.int IntKind.i64 t)), (24, V.d (D.bool false))], mem := [] })))) (fun x => M.impl_quotedEnd_l4_C x.1.1 x.1.2.1) [fe C.impl_byteAt] [] (by rintro _ _ _ _ _ <;> simp only [M.impl_quotedEnd_l4_C, nb] <;> rfl)
def M.impl_quotedEnd_C {R : Type} (s' : List UInt8) (at' : Int) (quote : Int) (k : Int → Option R) : Option R :=
  (M.impl_byteAt s' at').bind fun r404 =>
   (bif r404 != quote then (k (-1)) else
    ((M.impl_quotedEnd_l4 s' quote (IntKind.i64.wrap (at' + 1))).bind fun u411 =>
    sumE u411 (fun t409 => (k t409)) fun u412 =>
     letE u412 fun t410 => (k (-1))))
def M.impl_quotedEnd (s' : List UInt8) (at' : Int) (quote : Int) : Option (Int) := M.impl_quotedEnd_C s' at' quote some
theorem C.impl_quotedEnd : S.impl_quotedEnd.ok X0 fun x => M.impl_quotedEnd x.1.1 x.1.2.1 x.1.2.2.1 := fnS (fun x => M.impl_quotedEnd_C x.1.1 x.1.2.1 x.1.2.2.1) [fe C.impl_byteAt] [F.impl_quotedEnd_l4] (by intros; simp only [M.impl_quotedEnd_C, nb] <;> rfl)
def M.impl_StrEnd_C {R : Type} (s' : List UInt8) (at' : Int) (k : Int → Option R) : Option R :=
  (M.impl_quotedEnd s' at' 34).bind fun r413 => (k r413)
def M.impl_StrEnd (s' : List UInt8) (at' : Int) : Option (Int) := M.impl_StrEnd_C s' at' some
theorem C.impl_StrEnd : S.impl_StrEnd.ok X0 fun x => M.impl_StrEnd x.1.1 x.1.2.1 := fnS (fun x => M.impl_StrEnd_C x.1.1 x.1.2.1) [fe C.impl_quotedEnd] [] (by intros; simp only [M.impl_StrEnd_C, nb] <;> rfl)
def M.impl_EreEnd_C {R : Type} (s' : List UInt8) (at' : Int) (k : Int → Option R) : Option R :=
  (M.impl_quotedEnd s' at' 47).bind fun r415 => (bif r415 == IntKind.i64.wrap (at' + 2) then (k (-1)) else (k r415))
def M.impl_EreEnd (s' : List UInt8) (at' : Int) : Option (Int) := M.impl_EreEnd_C s' at' some
theorem C.impl_EreEnd : S.impl_EreEnd.ok X0 fun x => M.impl_EreEnd x.1.1 x.1.2.1 := fnS (fun x => M.impl_EreEnd_C x.1.1 x.1.2.1) [fe C.impl_quotedEnd] [] (by intros; simp only [M.impl_EreEnd_C, nb] <;> rfl)
def M.impl_isKeywordKind_C {R : Type} (kind : Int) (k : Bool → Option R) : Option R :=
  (M.impl_within kind 10 26).bind fun r420 => (k r420)
def M.impl_isKeywordKind (kind : Int) : Option (Bool) := M.impl_isKeywordKind_C kind some
theorem C.impl_isKeywordKind : S.impl_isKeywordKind.ok X0 fun x => M.impl_isKeywordKind x.1.1 := fnS (fun x => M.impl_isKeywordKind_C x.1.1) [fe C.impl_within] [] (by intros; simp only [M.impl_isKeywordKind_C, nb] <;> rfl)
def M.impl_isSignKind_C {R : Type} (kind : Int) (k : Bool → Option R) : Option R :=
  (M.impl_within kind 30 68).bind fun r423 => (k r423)
def M.impl_isSignKind (kind : Int) : Option (Bool) := M.impl_isSignKind_C kind some
theorem C.impl_isSignKind : S.impl_isSignKind.ok X0 fun x => M.impl_isSignKind x.1.1 := fnS (fun x => M.impl_isSignKind_C x.1.1) [fe C.impl_within] [] (by intros; simp only [M.impl_isSignKind_C, nb] <;> rfl)
def M.impl_SpellOf_C {R : Type} (kind : Int) (k : List UInt8 → Option R) : Option R :=
  bif kind == 1 then (k [10]) else
   ((M.impl_isKeywordKind kind).bind fun r421 =>
    (bif r421 then
     (bif decide (0 ≤ IntKind.i64.wrap (kind - 10)) && decide (IntKind.i64.wrap (kind - 10) < 17) then
      ((cStr keywordsRow (0 + (IntKind.i64.wrap (kind - 10)).toNat * 1)).bind fun s422 => (k s422)) else none) else
     ((M.impl_isSignKind kind).bind fun r424 =>
      (bif r424 then
       (bif decide (0 ≤ IntKind.i64.wrap (kind - 30)) && decide (IntKind.i64.wrap (kind - 30) < 39) then ((cStr signsRow (0 + (IntKind.i64.wrap (kind - 30)).toNat * 1)).bind fun s425 => (k s425)) else none) else (k [])))))
def M.impl_SpellOf (kind : Int) : Option (List UInt8) := M.impl_SpellOf_C kind some
theorem C.impl_SpellOf : S.impl_SpellOf.ok X0 fun x => M.impl_SpellOf x.1.1 := fnS (fun x => M.impl_SpellOf_C x.1.1) [fe C.impl_isKeywordKind, fe C.impl_isSignKind] [] (by intros; simp only [M.impl_SpellOf_C, nb] <;> rfl)
def M.impl_TokenOk_C {R : Type} (t' : Int) (t'1 : List UInt8) (t'2 : Int) (k : Bool → Option R) : Option R :=
  bif t'1 == [] then (k false) else
   (bif t' == 2 then
    ((idx t'1 0).bind fun c374 =>
     (bif (↑c374.toNat : Int) == 35 then ((M.strings_Contains t'1 [10]).bind fun r375 => (k !r375)) else (k false))) else
    (bif t' == 3 then ((M.impl_NumEnd t'1 0).bind fun r403 => (k (r403 == (↑t'1.length : Int)))) else
     (bif t' == 4 then ((M.impl_StrEnd t'1 0).bind fun r414 => (k (r414 == (↑t'1.length : Int)))) else
      (bif t' == 5 then ((M.impl_EreEnd t'1 0).bind fun r416 => (k (r416 == (↑t'1.length : Int)))) else
       (bif t' == 6 then ((M.impl_NameOk t'1).bind fun r417 => (k r417)) else
        (bif t' == 7 then ((M.impl_NameOk t'1).bind fun r418 => (k r418)) else
         (bif t' == 8 then ((M.impl_IsBuiltin t'1).bind fun r419 => (k r419)) else ((M.impl_SpellOf t').bind fun r426 => (k (t'1 == r426))))))))))
def M.impl_TokenOk (t' : Int) (t'1 : List UInt8) (t'2 : Int) : Option (Bool) := M.impl_TokenOk_C t' t'1 t'2 some
theorem C.impl_TokenOk : S.impl_TokenOk.ok X0 fun x => M.impl_TokenOk x.1.1.1 x.1.1.2.1 x.1.1.2.2.1 := fnS (fun x => M.impl_TokenOk_C x.1.1.1 x.1.1.2.1 x.1.1.2.2.1) [fe C.strings_Contains, fe C.impl_NumEnd, fe C.impl_StrEnd, fe C.impl_EreEnd, fe C.impl_NameOk, fe C.impl_IsBuiltin, fe C.impl_SpellOf] [] (by intros; simp only [M.impl_TokenOk_C, nb] <;> rfl)
def M.impl_isStep_C {R : Type} (kind : Int) (k : Bool → Option R) : Option R :=
  bif kind == 51 then (k true) else (k (kind == 52))
def M.impl_isStep (kind : Int) : Option (Bool) := M.impl_isStep_C kind some
theorem C.impl_isStep : S.impl_isStep.ok X0 fun x => M.impl_isStep x.1.1 := fnS (fun x => M.impl_isStep_C x.1.1) [] [] (by intros; simp only [M.impl_isStep_C, nb] <;> rfl)
def M.impl_OpLevel_C {R : Type} (op' : Int) (k : Int → Option R) : Option R :=
  bif op' == 44 then (k 3) else
   (bif op' == 45 then (k 4) else
    (bif op' == 67 then (k 6) else
     (bif op' == 46 then (k 6) else
      (bif op' == 63 then (k 7) else
       (bif op' == 48 then (k 7) else
        (bif op' == 47 then (k 7) else
         (bif op' == 50 then (k 7) else
          (bif op' == 62 then (k 7) else
           (bif op' == 49 then (k 7) else
            (bif op' == 99 then (k 8) else
             (bif op' == 55 then (k 9) else
              (bif op' == 56 then (k 9) else
               (bif op' == 57 then (k 10) else
                (bif op' == 58 then (k 10) else (bif op' == 59 then (k 10) else (bif op' == 60 then (k 12) else (k 0)))))))))))))))))
def M.impl_OpLevel (op' : Int) : Option (Int) := M.impl_OpLevel_C op' some
theorem C.impl_OpLevel : S.impl_OpLevel.ok X0 fun x => M.impl_OpLevel x.1.1 := fnS (fun x => M.impl_OpLevel_C x.1.1) [] [] (by intros; unfold M.impl_OpLevel_C; repeat' first | with_reducible apply nbif | with_reducible apply nbb | with_reducible apply nbo | with_reducible apply nbs | with_reducible apply nbl | (intro _) | apply nbif | rfl)
def M.impl_isAssign_C {R : Type} (kind : Int) (k : Bool → Option R) : Option R :=
  bif kind == 54 then (k true) else ((M.impl_within kind 38 43).bind fun r439 => (k r439))
def M.impl_isAssign (kind : Int) : Option (Bool) := M.impl_isAssign_C kind some
theorem C.impl_isAssign : S.impl_isAssign.ok X0 fun x => M.impl_isAssign x.1.1 := fnS (fun x => M.impl_isAssign_C x.1.1) [fe C.impl_within] [] (by intros; simp only [M.impl_isAssign_C, nb] <;> rfl)
def M.impl_exprForm_C {R : Type} (n' : Int) (n'1 : Int) (n'2 : List UInt8) (n'3 : List UInt8) (n'4 : List Row) (k : Bool × Bool × Bool × Int × Int → Option R) : Option R :=
  bif n' == 1 then ((M.impl_NameOk n'2).bind fun r372 => (k ((n'1 == 0, r372, false, 0, 0)))) else
   (bif n' == 2 then
    (bif decide (0 ≤ IntKind.i64.wrap (n' - 2)) && decide (IntKind.i64.wrap (n' - 2) < 3) then
     ((cInt IntKind.i64 [D.int IntKind.i64 3, D.int IntKind.i64 4, D.int IntKind.i64 5] (IntKind.i64.wrap (n' - 2)).toNat).bind fun n373 => ((M.impl_TokenOk n373 n'2 0).bind fun r427 => (k ((n'1 == 0, r427, false, 0, 0))))) else none) else
    (bif n' == 3 then
     (bif decide (0 ≤ IntKind.i64.wrap (n' - 2)) && decide (IntKind.i64.wrap (n' - 2) < 3) then
      ((cInt IntKind.i64 [D.int IntKind.i64 3, D.int IntKind.i64 4, D.int IntKind.i64 5] (IntKind.i64.wrap (n' - 2)).toNat).bind fun n428 => ((M.impl_TokenOk n428 n'2 0).bind fun r429 => (k ((n'1 == 0, r429, false, 0, 0))))) else none) else
     (bif n' == 4 then
      (bif decide (0 ≤ IntKind.i64.wrap (n' - 2)) && decide (IntKind.i64.wrap (n' - 2) < 3) then
       ((cInt IntKind.i64 [D.int IntKind.i64 3, D.int IntKind.i64 4, D.int IntKind.i64 5] (IntKind.i64.wrap (n' - 2)).toNat).bind fun n430 => ((M.impl_TokenOk n430 n'2 0).bind fun r431 => (k ((n'1 == 0, r431, false, 0, 0))))) else none) else
      (bif n' == 5 then ((M.impl_NameOk n'2).bind fun r432 => (k ((n'1 == 0, r432, false, 1, 6)))) else
       (bif n' == 13 then ((M.impl_NameOk n'2).bind fun r433 => (k ((n'1 == 0, r433, false, 1, 6)))) else
        (bif n' == 6 then (k ((n'1 == 0, n'2 == [], false, 1, 1))) else
         (bif n' == 7 then ((M.impl_NameOk n'2).bind fun r434 => (k ((n'1 == 0, r434, false, 0, 6)))) else
          (bif n' == 8 then ((M.impl_IsBuiltin n'2).bind fun r435 => (k ((n'1 == 0, r435, false, 0, 6)))) else
           (bif n' == 9 then ((M.impl_isStep n'1).bind fun r436 => (k ((r436, n'2 == [], false, 1, 1)))) else
            (bif n' == 10 then ((M.impl_isStep n'1).bind fun r437 => (k ((r437, n'2 == [], false, 1, 1)))) else
             (bif n' == 11 then
              (bif n'1 == 55 then (k ((true, n'2 == [], false, 1, 1))) else
               (bif n'1 == 56 then (k ((true, n'2 == [], false, 1, 1))) else (k ((n'1 == 61, n'2 == [], false, 1, 1))))) else
              (bif n' == 12 then ((M.impl_OpLevel n'1).bind fun r438 => (k ((r438 != 0, n'2 == [], false, 2, 2)))) else
               (bif n' == 14 then (k ((n'1 == 0, n'2 == [], false, 3, 3))) else ((M.impl_isAssign n'1).bind fun r440 => (k ((r440, n'2 == [], false, 2, 2)))))))))))))))))
def M.impl_exprForm (n' : Int) (n'1 : Int) (n'2 : List UInt8) (n'3 : List UInt8) (n'4 : List Row) : Option (Bool × Bool × Bool × Int × Int) := M.impl_exprForm_C n' n'1 n'2 n'3 n'4 some
theorem C.impl_exprForm : S.impl_exprForm.ok X0 fun x => M.impl_exprForm x.1.1.1 x.1.1.2.1 x.1.1.2.2.1 x.1.1.2.2.2.1 x.1.1.2.2.2.2.1 := fnS (fun x => M.impl_exprForm_C x.1.1.1 x.1.1.2.1 x.1.1.2.2.1 x.1.1.2.2.2.1 x.1.1.2.2.2.2.1) [fe C.impl_NameOk, fe C.impl_TokenOk, fe C.impl_IsBuiltin, fe C.impl_isStep, fe C.impl_OpLevel, fe C.impl_isAssign] [] (by intros; unfold M.impl_exprForm_C; repeat' first | with_reducible apply nbif | with_reducible apply nbb | with_reducible apply nbo | with_reducible apply nbs | with_reducible apply nbl | (intro _) | apply nbif | rfl)
def M.impl_IsStmt_C {R : Type} (kind : Int) (k : Bool → Option R) : Option R :=
  (M.impl_within kind 20 34).bind fun r444 => (k r444)
def M.impl_IsStmt (kind : Int) : Option (Bool) := M.impl_IsStmt_C kind some
theorem C.impl_IsStmt : S.impl_IsStmt.ok X0 fun x => M.impl_IsStmt x.1.1 := fnS (fun x => M.impl_IsStmt_C x.1.1) [fe C.impl_within] [] (by intros; simp only [M.impl_IsStmt_C, nb] <;> rfl)
def M.impl_stmtForm_C {R : Type} (n' : Int) (n'1 : Int) (n'2 : List UInt8) (n'3 : List UInt8) (n'4 : List Row) (k : Bool × Bool × Bool × Int × Int → Option R) : Option R :=
  bif n' == 20 then (k ((n'1 == 0, n'2 == [], n'3 == [], 1, 1))) else
   (bif n' == 21 then
    (bif n'1 == 0 then
     ((M.slices_Contains ([[D.str []], [D.str [62]], [D.str [62, 62]], [D.str [124]]]) n'3).bind fun r446 =>
      (bif !n'3 == [] then (k ((true, n'2 == [], r446, IntKind.i64.wrap (n'1 + 1), 7))) else (k ((true, n'2 == [], r446, n'1, 6))))) else
     ((M.slices_Contains ([[D.str []], [D.str [62]], [D.str [62, 62]], [D.str [124]]]) n'3).bind fun r447 =>
      (bif !n'3 == [] then (k ((n'1 == 1, n'2 == [], r447, IntKind.i64.wrap (n'1 + 1), 7))) else (k ((n'1 == 1, n'2 == [], r447, n'1, 6)))))) else
    (bif n' == 23 then (k ((n'1 == 0, n'2 == [], n'3 == [], 0, 1))) else
     (bif n' == 24 then (k ((n'1 == 0, n'2 == [], n'3 == [], 0, 1))) else
      (bif n' == 27 then ((M.impl_NameOk n'2).bind fun r448 => (k ((n'1 == 0, r448, n'3 == [], 0, 6)))) else
       (bif n' == 28 then (k ((n'1 == 0, n'2 == [], n'3 == [], 2, 3))) else
        (bif n' == 29 then (k ((n'1 == 0, n'2 == [], n'3 == [], 2, 2))) else
         (bif n' == 30 then (k ((n'1 == 0, n'2 == [], n'3 == [], 2, 2))) else
          (bif n' == 31 then (k ((n'1 == 0, n'2 == [], n'3 == [], 4, 4))) else
           (bif n' == 32 then
            ((M.impl_NameOk n'2).bind fun r449 => ((M.impl_NameOk n'3).bind fun r450 => (k ((n'1 == 0, r449, r450, 1, 1))))) else
            (bif n' == 33 then (k ((n'1 == 0, n'2 == [], n'3 == [], 0, 400))) else
             (bif n' == 34 then ((M.impl_TokenOk 2 n'2 0).bind fun r451 => (k ((n'1 == 0, r451, n'3 == [], 0, 0)))) else (k ((n'1 == 0, n'2 == [], n'3 == [], 0, 0))))))))))))))
def M.impl_stmtForm (n' : Int) (n'1 : Int) (n'2 : List UInt8) (n'3 : List UInt8) (n'4 : List Row) : Option (Bool × Bool × Bool × Int × Int) := M.impl_stmtForm_C n' n'1 n'2 n'3 n'4 some
theorem C.impl_stmtForm : S.impl_stmtForm.ok X0 fun x => M.impl_stmtForm x.1.1.1 x.1.1.2.1 x.1.1.2.2.1 x.1.1.2.2.2.1 x.1.1.2.2.2.2.1 := fnS (fun x => M.impl_stmtForm_C x.1.1.1 x.1.1.2.1 x.1.1.2.2.1 x.1.1.2.2.2.1 x.1.1.2.2.2.2.1) [fe C.slices_Contains, fe C.impl_NameOk, fe C.impl_TokenOk] [] (by intros; unfold M.impl_stmtForm_C; repeat' first | with_reducible apply nbif | with_reducible apply nbb | with_reducible apply nbo | with_reducible apply nbs | with_reducible apply nbl | (intro _) | apply nbif | rfl)
def M.impl_itemForm_C {R : Type} (n' : Int) (n'1 : Int) (n'2 : List UInt8) (n'3 : List UInt8) (n'4 : List Row) (k : Bool × Bool × Bool × Int × Int → Option R) : Option R :=
  bif n' == 40 then (k ((n'1 == 0, n'2 == [], n'3 == [], 1, 1))) else
   (bif n' == 41 then (k ((n'1 == 0, n'2 == [], n'3 == [], 1, 1))) else
    (bif n' == 42 then
     ((M.impl_within n'1 1 3).bind fun r455 =>
      (bif n'1 == 3 then (k ((r455, n'2 == [], n'3 == [], 2, 2))) else (k ((r455, n'2 == [], n'3 == [], 1, 1))))) else
     (bif n' == 43 then
      (bif n'1 == 1 then
       (bif n'1 == 3 then (k ((true, n'2 == [], n'3 == [], 3, 3))) else (k ((true, n'2 == [], n'3 == [], 2, 2)))) else
       (bif n'1 == 3 then (k ((n'1 == 3, n'2 == [], n'3 == [], 3, 3))) else (k ((n'1 == 3, n'2 == [], n'3 == [], 2, 2))))) else
      (bif n' == 44 then ((M.impl_NameOk n'2).bind fun r456 => (k ((n'1 == 0, r456, n'3 == [], 1, 7)))) else (k ((n'1 == 0, n'2 == [], n'3 == [], 0, 400)))))))
def M.impl_itemForm (n' : Int) (n'1 : Int) (n'2 : List UInt8) (n'3 : List UInt8) (n'4 : List Row) : Option (Bool × Bool × Bool × Int × Int) := M.impl_itemForm_C n' n'1 n'2 n'3 n'4 some
theorem C.impl_itemForm : S.impl_itemForm.ok X0 fun x => M.impl_itemForm x.1.1.1 x.1.1.2.1 x.1.1.2.2.1 x.1.1.2.2.2.1 x.1.1.2.2.2.2.1 := fnS (fun x => M.impl_itemForm_C x.1.1.1 x.1.1.2.1 x.1.1.2.2.1 x.1.1.2.2.2.1 x.1.1.2.2.2.2.1) [fe C.impl_within, fe C.impl_NameOk] [] (by intros; simp only [M.impl_itemForm_C, nb] <;> rfl)
def M.impl_FieldsOk_C {R : Type} (n' : Int) (n'1 : Int) (n'2 : List UInt8) (n'3 : List UInt8) (n'4 : List Row) (k : Bool → Option R) : Option R :=
  (M.impl_IsExpr n').bind fun r348 =>
   (bif r348 then
    ((M.impl_exprForm n' n'1 n'2 n'3 n'4).bind fun r441 =>
     (bif r441.fst then
      (bif r441.snd.fst then
       (bif n'3 == [] then
        ((M.impl_within ((↑n'4.length : Int)) r441.snd.snd.snd.fst r441.snd.snd.snd.snd).bind fun r442 => (k r442)) else (k false)) else (k false)) else (k false))) else
    (bif n' == 16 then
     (bif n'1 == 0 then
      (bif n'2 == [] then
       (bif n'3 == [] then ((M.impl_within ((↑n'4.length : Int)) 0 0).bind fun r443 => (k r443)) else (k false)) else (k false)) else (k false)) else
     ((M.impl_IsStmt n').bind fun r445 =>
      (bif r445 then
       ((M.impl_stmtForm n' n'1 n'2 n'3 n'4).bind fun r452 =>
        (bif r452.fst then
         (bif r452.snd.fst then
          (bif r452.snd.snd.fst then
           ((M.impl_within ((↑n'4.length : Int)) r452.snd.snd.snd.fst r452.snd.snd.snd.snd).bind fun r453 => (k r453)) else (k false)) else (k false)) else (k false))) else
       ((M.impl_within n' 40 45).bind fun r454 =>
        (bif r454 then
         ((M.impl_itemForm n' n'1 n'2 n'3 n'4).bind fun r457 =>
          (bif r457.fst then
           (bif r457.snd.fst then
            (bif r457.snd.snd.fst then
             ((M.impl_within ((↑n'4.length : Int)) r457.snd.snd.snd.fst r457.snd.snd.snd.snd).bind fun r458 => (k r458)) else (k false)) else (k false)) else (k false))) else (k false)))))))
def M.impl_FieldsOk (n' : Int) (n'1 : Int) (n'2 : List UInt8) (n'3 : List UInt8) (n'4 : List Row) : Option (Bool) := M.impl_FieldsOk_C n' n'1 n'2 n'3 n'4 some
theorem C.impl_FieldsOk : S.impl_FieldsOk.ok X0 fun x => M.impl_FieldsOk x.1.1.1 x.1.1.2.1 x.1.1.2.2.1 x.1.1.2.2.2.1 x.1.1.2.2.2.2.1 := fnS (fun x => M.impl_FieldsOk_C x.1.1.1 x.1.1.2.1 x.1.1.2.2.1 x.1.1.2.2.2.1 x.1.1.2.2.2.2.1) [fe C.impl_IsExpr, fe C.impl_exprForm, fe C.impl_within, fe C.impl_IsStmt, fe C.impl_stmtForm, fe C.impl_itemForm] [] (by intros; unfold M.impl_FieldsOk_C; repeat' first | with_reducible apply nbif | with_reducible apply nbb | with_reducible apply nbo | with_reducible apply nbs | with_reducible apply nbl | (intro _) | apply nbif | rfl)
def M.impl_IsLvalue_C {R : Type} (kind : Int) (k : Bool → Option R) : Option R :=
  bif kind == 1 then (k true) else (bif kind == 5 then (k true) else (k (kind == 6)))
def M.impl_IsLvalue (kind : Int) : Option (Bool) := M.impl_IsLvalue_C kind some
theorem C.impl_IsLvalue : S.impl_IsLvalue.ok X0 fun x => M.impl_IsLvalue x.1.1 := fnS (fun x => M.impl_IsLvalue_C x.1.1) [] [] (by intros; simp only [M.impl_IsLvalue_C, nb] <;> rfl)
def M.impl_isItem_C {R : Type} (kind : Int) (k : Bool → Option R) : Option R :=
  (M.impl_within kind 40 44).bind fun r479 => (k r479)
def M.impl_isItem (kind : Int) : Option (Bool) := M.impl_isItem_C kind some
theorem C.impl_isItem : S.impl_isItem.ok X0 fun x => M.impl_isItem x.1.1 := fnS (fun x => M.impl_isItem_C x.1.1) [fe C.impl_within] [] (by intros; simp only [M.impl_isItem_C, nb] <;> rfl)
def M.impl_kidOk_C {R : Type} (n' : Int) (n'1 : Int) (n'2 : List UInt8) (n'3 : List UInt8) (n'4 : List Row) (k' : Int) (kid : Int) (k : Bool → Option R) : Option R :=
  bif n' == 9 then ((M.impl_IsLvalue kid).bind fun r464 => (k r464)) else
   (bif n' == 10 then ((M.impl_IsLvalue kid).bind fun r465 => (k r465)) else
    (bif n' == 15 then
     (bif k' == 0 then
      ((M.impl_IsLvalue kid).bind fun r466 =>
       (bif r466 then (k true) else (bif decide (k' > 0) then ((M.impl_IsExpr kid).bind fun r467 => (k r467)) else (k false)))) else (bif decide (k' > 0) then ((M.impl_IsExpr kid).bind fun r468 => (k r468)) else (k false))) else
     (bif n' == 28 then
      (bif decide (k' > 0) then (k (kid == 33)) else ((M.impl_IsExpr kid).bind fun r469 => (k r469))) else
      (bif n' == 29 then
       (bif decide (k' > 0) then (k (kid == 33)) else ((M.impl_IsExpr kid).bind fun r470 => (k r470))) else
       (bif n' == 31 then
        (bif decide (k' < 3) then
         (bif kid == 16 then (k true) else
          (bif k' == IntKind.i64.wrap ((↑n'4.length : Int) - 1) then (k (kid == 33)) else ((M.impl_IsExpr kid).bind fun r471 => (k r471)))) else
         (bif k' == IntKind.i64.wrap ((↑n'4.length : Int) - 1) then (k (kid == 33)) else ((M.impl_IsExpr kid).bind fun r472 => (k r472)))) else
        (bif n' == 30 then (bif k' == 0 then (k (kid == 33)) else ((M.impl_IsExpr kid).bind fun r473 => (k r473))) else
         (bif n' == 32 then (k (kid == 33)) else
          (bif n' == 40 then (k (kid == 33)) else
           (bif n' == 41 then (k (kid == 33)) else
            (bif n' == 33 then ((M.impl_IsStmt kid).bind fun r474 => (k r474)) else
             (bif n' == 42 then
              (bif k' == IntKind.i64.wrap ((↑n'4.length : Int) - 1) then
               (bif decide (n'1 ≥ 2) then (k (kid == 33)) else ((M.impl_IsExpr kid).bind fun r475 => (k r475))) else ((M.impl_IsExpr kid).bind fun r476 => (k r476))) else
              (bif n' == 43 then
               (bif k' == IntKind.i64.wrap ((↑n'4.length : Int) - 1) then (bif n'1 == 3 then (k (kid == 33)) else ((M.impl_IsExpr kid).bind fun r477 => (k r477))) else ((M.impl_IsExpr kid).bind fun r478 => (k r478))) else
               (bif n' == 44 then
                (bif !k' == IntKind.i64.wrap ((↑n'4.length : Int) - 1) then (k (kid == 1)) else (k (kid == 33))) else
                (bif n' == 45 then ((M.impl_isItem kid).bind fun r480 => (bif r480 then (k true) else (k (kid == 34)))) else ((M.impl_IsExpr kid).bind fun r481 => (k r481))))))))))))))))
def M.impl_kidOk (n' : Int) (n'1 : Int) (n'2 : List UInt8) (n'3 : List UInt8) (n'4 : List Row) (k' : Int) (kid : Int) : Option (Bool) := M.impl_kidOk_C n' n'1 n'2 n'3 n'4 k' kid some
theorem C.impl_kidOk : S.impl_kidOk.ok X0 fun x => M.impl_kidOk x.1.1.1 x.1.1.2.1 x.1.1.2.2.1 x.1.1.2.2.2.1 x.1.1.2.2.2.2.1 x.1.2.1 x.1.2.2.1 := fnS (fun x => M.impl_kidOk_C x.1.1.1 x.1.1.2.1 x.1.1.2.2.1 x.1.1.2.2.2.1 x.1.1.2.2.2.2.1 x.1.2.1 x.1.2.2.1) [fe C.impl_IsLvalue, fe C.impl_IsExpr, fe C.impl_IsStmt, fe C.impl_isItem] [] (by intros; unfold M.impl_kidOk_C; repeat' first | with_reducible apply nbif | with_reducible apply nbb | with_reducible apply nbo | with_reducible apply nbs | with_reducible apply nbl | (intro _) | apply nbif | rfl)
def M.impl_treeAt_l4_C {R : Type} (rec_impl_treeAt : List Row → Int → Option (Int × Int × List UInt8 × List UInt8 × List Row)) (s : (List Row × List Row × Int × Int × Int × Int × List UInt8 × List UInt8 × Int × Int × List UInt8 × List UInt8) ⊕ (List Row × List Row × Int × Int × Int × Int × List UInt8 × List UInt8 × Int × Int × List UInt8 × List UInt8 × List Row)) (kn : (List Row × List Row × Int × Int × Int × Int × List UInt8 × List UInt8 × Int × Int × List UInt8 × List UInt8) ⊕ (List Row × List Row × Int × Int × Int × Int × List UInt8 × List UInt8 × Int × Int × List UInt8 × List UInt8 × List Row) → Option R) (ke : (List Row × List Row × Int × Int × Int × Int × List UInt8 × List UInt8 × Int × Int × List UInt8 × List UInt8) ⊕ (List Row × List Row × Int × Int × Int × Int × List UInt8 × List UInt8 × Int × Int × List UInt8 × List UInt8 × List Row) → Option R) : Option R := match s with
  | .inl ((l, v23, v24, v25, x', x'1, x'2, x'3, x'4, x'5, x'6, x'7)) =>
    bif decide (v25 < v24) then
     ((idx v23 v25).bind fun row493 =>
      ((cInt IntKind.i64 row493 0).bind fun n494 =>
       ((rec_impl_treeAt l n494).bind fun r495 =>
        (kn (.inr ((l, v23, v24, IntKind.i64.wrap (v25 + 1), x', x'1, x'2, x'3, x'4, x'5, x'6, x'7, [[D.int IntKind.i64 r495.fst, D.int IntKind.i64 r495.snd.fst, D.str r495.snd.snd.fst, D.str r495.snd.snd.snd.fst, D.sl true 5 r495.snd.snd.snd.snd]]))))))) else (ke (.inl ((l, v23, v24, v25, x', x'1, x'2, x'3, x'4, x'5, x'6, x'7))))
  | .inr ((l, v23, v24, v25, x', x'1, x'2, x'3, x'4, x'5, x'6, x'7, x'8)) =>
    bif decide (v25 < v24) then
     ((idx v23 v25).bind fun row496 =>
      ((cInt IntKind.i64 row496 0).bind fun n497 =>
       ((rec_impl_treeAt l n497).bind fun r498 =>
        (bif ((x'8.length + [[D.int IntKind.i64 r498.fst, D.int IntKind.i64 r498.snd.fst, D.str r498.snd.snd.fst, D.str r498.snd.snd.snd.fst, D.sl true 5 r498.snd.snd.snd.snd]].length) * 72).ble 140737488355328 then
         (bif (x'8.length + [[D.int IntKind.i64 r498.fst, D.int IntKind.i64 r498.snd.fst, D.str r498.snd.snd.fst, D.str r498.snd.snd.snd.fst, D.sl true 5 r498.snd.snd.snd.snd]].length).ble 140737488355328 then
          (kn (.inr ((l, v23, v24, IntKind.i64.wrap (v25 + 1), x', x'1, x'2, x'3, x'4, x'5, x'6, x'7, x'8 ++ [[D.int IntKind.i64 r498.fst, D.int IntKind.i64 r498.snd.fst, D.str r498.snd.snd.fst, D.str r498.snd.snd.snd.fst, D.sl true 5 r498.snd.snd.snd.snd]])))) else none) else none)))) else (ke (.inr ((l, v23, v24, v25, x', x'1, x'2, x'3, x'4, x'5, x'6, x'7, x'8))))
def M.impl_treeAt_l4_b (rec_impl_treeAt : List Row → Int → Option (Int × Int × List UInt8 × List UInt8 × List Row)) (s : (List Row × List Row × Int × Int × Int × Int × List UInt8 × List UInt8 × Int × Int × List UInt8 × List UInt8) ⊕ (List Row × List Row × Int × Int × Int × Int × List UInt8 × List UInt8 × Int × Int × List UInt8 × List UInt8 × List Row)) := M.impl_treeAt_l4_C rec_impl_treeAt s (fun s => some (Sum.inl s)) fun t => some (Sum.inr t)
def M.impl_treeAt_l4 (rec_impl_treeAt : List Row → Int → Option (Int × Int × List UInt8 × List UInt8 × List Row)) (s : (List Row × List Row × Int × Int × Int × Int × List UInt8 × List UInt8 × Int × Int × List UInt8 × List UInt8) ⊕ (List Row × List Row × Int × Int × Int × Int × List UInt8 × List UInt8 × Int × Int × List UInt8 × List UInt8 × List Row)) : Option ((List Row × List Row × Int × Int × Int × Int × List UInt8 × List UInt8 × Int × Int × List UInt8 × List UInt8) ⊕ (List Row × List Row × Int × Int × Int × Int × List UInt8 × List UInt8 × Int × Int × List UInt8 × List UInt8 × List Row)) := loopM (M.impl_treeAt_l4_b rec_impl_treeAt) s
def F.impl_treeAt_l4 {rec_impl_treeAt : List Row → Int → Option (Int × Int × List UInt8 × List UInt8 × List Row)} (h_impl_treeAt : S.impl_treeAt.ok X0 fun x => rec_impl_treeAt x.1.1 x.1.2.1) : LE X0 33 := le 4 (pOr (pSt [pAt 0 (pL false 5), pAt 4 (pP 300000 0), pAt 6 (pP 300001 0), pAt 23 (pL false 1), pAt 24 pI, pAt 25 pI] [pAt 300000 (cB 43 [pI, pI, pS, pS, pNil 5]), pAt 300001 (cB 43 [pI, pI, pS, pS, pNil 5])]) (pSt [pAt 0 (pL false 5), pAt 4 (pP 300000 0), pAt 6 (pP 300001 0), pAt 23 (pL false 1), pAt 24 pI, pAt 25 pI] [pAt 300000 (cB 43 [pI, pI, pS, pS, pNil 5]), pAt 300001 (cB 43 [pI, pI, pS, pS, pO 300002 0]), pAt 300002 (cA false false 0 5)])) (σ := (List Row × List Row × Int × Int × Int × Int × List UInt8 × List UInt8 × Int × Int × List UInt8 × List UInt8) ⊕ (List Row × List Row × Int × Int × Int × Int × List UInt8 × List UInt8 × Int × Int × List UInt8 × List UInt8 × List Row)) (fun x => (match x with | .inl x => .inl ((x.1.1, x.1.2.2.2.1, x.1.2.2.2.2.1, x.1.2.2.2.2.2.1, x.2.1.1, x.2.1.2.1, x.2.1.2.2.1, x.2.1.2.2.2.1, x.2.2.1.1, x.2.2.1.2.1, x.2.2.1.2.2.1, x.2.2.1.2.2.2.1)) | .inr x => .inr ((x.1.1, x.1.2.2.2.1, x.1.2.2.2.2.1, x.1.2.2.2.2.2.1, x.2.1.1, x.2.1.2.1, x.2.1.2.2.1, x.2.1.2.2.2.1, x.2.2.1.1, x.2.2.1.2.1, x.2.2.1.2.2.1, x.2.2.1.2.2.2.1, x.2.2.2.1)))) (fun x s => (match s with | .inl s => .inl (((s.1, (), (), s.2.1, s.2.2.1, s.2.2.2.1, ()), ((s.2.2.2.2.1, s.2.2.2.2.2.1, s.2.2.2.2.2.2.1, s.2.2.2.2.2.2.2.1, (), ()), (s.2.2.2.2.2.2.2.2.1, s.2.2.2.2.2.2.2.2.2.1, s.2.2.2.2.2.2.2.2.2.2.1, s.2.2.2.2.2.2.2.2.2.2.2, (), ()), ()))) | .inr s => .inr (((s.1, (), (), s.2.1, s.2.2.1, s.2.2.2.1, ()), ((s.2.2.2.2.1, s.2.2.2.2.2.1, s.2.2.2.2.2.2.1, s.2.2.2.2.2.2.2.1, (), ()), (s.2.2.2.2.2.2.2.2.1, s.2.2.2.2.2.2.2.2.2.1, s.2.2.2.2.2.2.2.2.2.2.1, s.2.2.2.2.2.2.2.2.2.2.2.1, (), ()), s.2.2.2.2.2.2.2.2.2.2.2.2, ()))))) (fun x => .sum (.leaf (List Row × List Row × Int × Int × Int × Int × List UInt8 × List UInt8 × Int × Int × List UInt8 × List UInt8) (fun t => (Ex.exit 0, { tm := [(0, V.d (D.sl false 5 t.fst)), (4, V.ptr 300000 0), (6, V.ptr 300001 0), (23, V.d (D.sl false 1 t.snd.fst)), (24, V.d (D.int IntKind.i64 t.snd.snd.fst)), (25, V.d (D.int IntKind.i64 t.snd.snd.snd.fst)), (26, V.d (D.bool false))], mem := [(300000, Cell.box 43 [V.d (D.int IntKind.i64 t.snd.snd.snd.snd.fst), V.d (D.int IntKind.i64 t.snd.snd.snd.snd.snd.fst), V.d (D.str t.snd.snd.snd.snd.snd.snd.fst), V.d (D.str t.snd.snd.snd.snd.snd.snd.snd.fst), V.nil 5]), (300001, Cell.box 43 [V.d (D.int IntKind.i64 t.snd.snd.snd.snd.snd.snd.snd.snd.fst), V.d (D.int IntKind.i64 t.snd.snd.snd.snd.snd.snd.snd.snd.snd.fst), V.d (D.str t.snd.snd.snd.snd.snd.snd.snd.snd.snd.snd.fst), V.d (D.str t.snd.snd.snd.snd.snd.snd.snd.snd.snd.snd.snd), V.nil 5])] }))) (.leaf (List Row × List Row × Int × Int × Int × Int × List UInt8 × List UInt8 × Int × Int × List UInt8 × List UInt8 × List Row) (fun t => (Ex.exit 0, { tm := [(0, V.d (D.sl false 5 t.fst)), (4, V.ptr 300000 0), (6, V.ptr 300001 0), (23, V.d (D.sl false 1 t.snd.fst)), (24, V.d (D.int IntKind.i64 t.snd.snd.fst)), (25, V.d (D.int IntKind.i64 t.snd.snd.snd.fst)), (26, V.d (D.bool false))], mem := [(300000, Cell.box 43 [V.d (D.int IntKind.i64 t.snd.snd.snd.snd.fst), V.d (D.int IntKind.i64 t.snd.snd.snd.snd.snd.fst), V.d (D.str t.snd.snd.snd.snd.snd.snd.fst), V.d (D.str t.snd.snd.snd.snd.snd.snd.snd.fst), V.nil 5]), (300001, Cell.box 43 [V.d (D.int IntKind.i64 t.snd.snd.snd.snd.snd.snd.snd.snd.fst), V.d (D.int IntKind.i64 t.snd.snd.snd.snd.snd.snd.snd.snd.snd.fst), V.d (D.str t.snd.snd.snd.snd.snd.snd.snd.snd.snd.snd.fst), V.d (D.str t.snd.snd.snd.snd.snd.snd.snd.snd.snd.snd.snd.fst), V.own 300002 0]), (300002, Cell.arr false false 0 5 t.snd.snd.snd.snd.snd.snd.snd.snd.snd.snd.snd.snd)] })))) (fun x => M.impl_treeAt_l4_C rec_impl_treeAt) [fe h_impl_treeAt] [] (by rintro _ _ (⟨_, _, _, _, _, _, _, _, _, _, _, _⟩ | ⟨_, _, _, _, _, _, _, _, _, _, _, _, _⟩) _ _ <;> simp only [M.impl_treeAt_l4_C, nb] <;> rfl) (hE := by intro _ _ s _; rcases s with s | s <;> kernel_rfl)
def M.impl_treeAt_C {R : Type} (rec_impl_treeAt : List Row → Int → Option (Int × Int × List UInt8 × List UInt8 × List Row)) (l : List Row) (i : Int) (k : Int × Int × List UInt8 × List UInt8 × List Row → Option R) : Option R :=
  (idx l i).bind fun row487 =>
   ((cInt IntKind.i64 row487 0).bind fun n488 =>
    ((cInt IntKind.i64 row487 1).bind fun n489 =>
     ((cStr row487 2).bind fun s490 =>
      ((cStr row487 3).bind fun s491 =>
       ((cSl 1 row487 4).bind fun rows492 =>
        ((M.impl_treeAt_l4 rec_impl_treeAt (.inl ((l, rows492, (↑rows492.length : Int), 0, 0, 0, [], [], n488, n489, s490, s491)))).bind fun u501 =>
        sumE u501 (fun t499 =>
         (k ((t499.snd.snd.snd.snd.snd.snd.snd.snd.fst, t499.snd.snd.snd.snd.snd.snd.snd.snd.snd.fst, t499.snd.snd.snd.snd.snd.snd.snd.snd.snd.snd.fst, t499.snd.snd.snd.snd.snd.snd.snd.snd.snd.snd.snd, [])))) fun u502 =>
         letE u502 fun t500 =>
          (k ((t500.snd.snd.snd.snd.snd.snd.snd.snd.fst, t500.snd.snd.snd.snd.snd.snd.snd.snd.snd.fst, t500.snd.snd.snd.snd.snd.snd.snd.snd.snd.snd.fst, t500.snd.snd.snd.snd.snd.snd.snd.snd.snd.snd.snd.fst, t500.snd.snd.snd.snd.snd.snd.snd.snd.snd.snd.snd.snd)))))))))
def M.impl_treeAt_N : Nat → List Row → Int → Option (Int × Int × List UInt8 × List UInt8 × List Row)
  | 0 => fun _ _ => none
  | n + 1 => fun l i => M.impl_treeAt_C (M.impl_treeAt_N n) l i some
def M.impl_treeAt (l : List Row) (i : Int) : Option (Int × Int × List UInt8 × List UInt8 × List Row) := lim fun n => M.impl_treeAt_N n l i
theorem C.impl_treeAt_r1 {rec_impl_treeAt : List Row → Int → Option (Int × Int × List UInt8 × List UInt8 × List Row)} (h_impl_treeAt : S.impl_treeAt.ok X0 fun x => rec_impl_treeAt x.1.1 x.1.2.1) : S.impl_treeAt.ok X0 fun x => M.impl_treeAt_C rec_impl_treeAt x.1.1 x.1.2.1 some := fnS (fun x => M.impl_treeAt_C rec_impl_treeAt x.1.1 x.1.2.1) [] [F.impl_treeAt_l4 h_impl_treeAt] (by intros; simp only [M.impl_treeAt_C, nb] <;> rfl)
theorem C.impl_treeAt_N : ∀ n, S.impl_treeAt.ok X0 fun x => M.impl_treeAt_N n x.1.1 x.1.2.1
  | 0 => Sig.zero
  | n + 1 => C.impl_treeAt_r1 (C.impl_treeAt_N n)
theorem C.impl_treeAt : S.impl_treeAt.ok X0 fun x => M.impl_treeAt x.1.1 x.1.2.1 := Sig.lim C.impl_treeAt_N
theorem M.impl_treeAt_of {n : Nat} {l : List Row} {i : Int} {r : Int × Int × List UInt8 × List UInt8 × List Row} (h : M.impl_treeAt_N n l i = some r) : M.impl_treeAt l i = some r :=
  Sig.lim_of C.impl_treeAt_N (by intro a b h; simp [S.impl_treeAt, sg] at h; first | exact h | simp [Prod.ext_iff, h]) (x := ((l, i, ()), ())) h
def M.impl_rootOf_C {R : Type} (l : List Row) (k : Int × Int × List UInt8 × List UInt8 × List Row → Option R) : Option R :=
  (M.impl_treeAt l (IntKind.i64.wrap ((↑l.length : Int) - 1))).bind fun r503 =>
   (k ((r503.fst, r503.snd.fst, r503.snd.snd.fst, r503.snd.snd.snd.fst, r503.snd.snd.snd.snd)))
def M.impl_rootOf (l : List Row) : Option (Int × Int × List UInt8 × List UInt8 × List Row) := M.impl_rootOf_C l some
theorem C.impl_rootOf : S.impl_rootOf.ok X0 fun x => M.impl_rootOf x.1.1 := fnS (fun x => M.impl_rootOf_C x.1.1) [fe C.impl_treeAt] [] (by intros; simp only [M.impl_rootOf_C, nb] <;> rfl)
def M.impl_tree_depth_l3_C {R : Type} (rec_impl_tree_depth : Int → Int → List UInt8 → List UInt8 → List Row → Option (Int)) (v7 : List Row) (v8 : Int) (s : Int × Int) (kn : Int × Int → Option R) (ke : Int × Int → Option R) : Option R := match s with
  | (most, v9) =>
    bif decide (v9 < v8) then
     ((idx v7 v9).bind fun row505 =>
      ((cInt IntKind.i64 row505 0).bind fun n506 =>
       ((cInt IntKind.i64 row505 1).bind fun n507 =>
        ((cStr row505 2).bind fun s508 =>
         ((cStr row505 3).bind fun s509 =>
          ((cSl 5 row505 4).bind fun rows510 =>
           ((rec_impl_tree_depth n506 n507 s508 s509 rows510).bind fun r511 => (kn ((bif decide (most < r511) then r511 else most, IntKind.i64.wrap (v9 + 1))))))))))) else (ke ((most, v9)))
def M.impl_tree_depth_l3_b (rec_impl_tree_depth : Int → Int → List UInt8 → List UInt8 → List Row → Option (Int)) (v7 : List Row) (v8 : Int) (s : Int × Int) := M.impl_tree_depth_l3_C rec_impl_tree_depth v7 v8 s (fun s => some (Sum.inl s)) fun t => some (Sum.inr t)
def M.impl_tree_depth_l3 (rec_impl_tree_depth : Int → Int → List UInt8 → List UInt8 → List Row → Option (Int)) (v7 : List Row) (v8 : Int) (s : Int × Int) : Option (Int × Int) := loopM (M.impl_tree_depth_l3_b rec_impl_tree_depth v7 v8) s
def F.impl_tree_depth_l3 {rec_impl_tree_depth : Int → Int → List UInt8 → List UInt8 → List Row → Option (Int)} (h_impl_tree_depth : S.impl_tree_depth.ok X0 fun x => rec_impl_tree_depth x.1.1.1 x.1.1.2.1 x.1.1.2.2.1 x.1.1.2.2.2.1 x.1.1.2.2.2.2.1) : LE X0 46 := le 3 (pSt [pAt 3 pI, pAt 7 (pL false 5), pAt 8 pI, pAt 9 pI] []) (fun x => (x.1.1, x.1.2.2.2.1)) (fun x s => ((s.1, x.1.2.1, x.1.2.2.1, s.2, ()), ())) (fun x => .leaf (Int × Int) (fun t => (Ex.exit 0, { tm := [(3, V.d (D.int IntKind.i64 t.fst)), (7, V.d (D.sl false 5 x.1.2.1)), (8, V.d (D.int IntKind.i64 x.1.2.2.1)), (9, V.d (D.int IntKind.i64 t.snd)), (10, V.d (D.bool false))], mem := [] }))) (fun x => M.impl_tree_depth_l3_C rec_impl_tree_depth x.1.2.1 x.1.2.2.1) [fe h_impl_tree_depth] [] (by rintro _ _ ⟨_, _⟩ _ _ <;> simp only [M.impl_tree_depth_l3_C, nb] <;> rfl)
def M.impl_tree_depth_C {R : Type} (rec_impl_tree_depth : Int → Int → List UInt8 → List UInt8 → List Row → Option (Int)) (t' : Int) (t'1 : Int) (t'2 : List UInt8) (t'3 : List UInt8) (t'4 : List Row) (k : Int → Option R) : Option R :=
  (M.impl_tree_depth_l3 rec_impl_tree_depth t'4 ((↑t'4.length : Int)) ((0, 0))).bind fun t512 => (k (IntKind.i64.wrap (t512.fst + 1)))
def M.impl_tree_depth_N : Nat → Int → Int → List UInt8 → List UInt8 → List Row → Option (Int)
  | 0 => fun _ _ _ _ _ => none
  | n + 1 => fun t' t'1 t'2 t'3 t'4 => M.impl_tree_depth_C (M.impl_tree_depth_N n) t' t'1 t'2 t'3 t'4 some
def M.impl_tree_depth (t' : Int) (t'1 : Int) (t'2 : List UInt8) (t'3 : List UInt8) (t'4 : List Row) : Option (Int) := lim fun n => M.impl_tree_depth_N n t' t'1 t'2 t'3 t'4
theorem C.impl_tree_depth_r1 {rec_impl_tree_depth : Int → Int → List UInt8 → List UInt8 → List Row → Option (Int)} (h_impl_tree_depth : S.impl_tree_depth.ok X0 fun x => rec_impl_tree_depth x.1.1.1 x.1.1.2.1 x.1.1.2.2.1 x.1.1.2.2.2.1 x.1.1.2.2.2.2.1) : S.impl_tree_depth.ok X0 fun x => M.impl_tree_depth_C rec_impl_tree_depth x.1.1.1 x.1.1.2.1 x.1.1.2.2.1 x.1.1.2.2.2.1 x.1.1.2.2.2.2.1 some := fnS (fun x => M.impl_tree_depth_C rec_impl_tree_depth x.1.1.1 x.1.1.2.1 x.1.1.2.2.1 x.1.1.2.2.2.1 x.1.1.2.2.2.2.1) [] [F.impl_tree_depth_l3 h_impl_tree_depth] (by intros; simp only [M.impl_tree_depth_C, nb] <;> rfl)
theorem C.impl_tree_depth_N : ∀ n, S.impl_tree_depth.ok X0 fun x => M.impl_tree_depth_N n x.1.1.1 x.1.1.2.1 x.1.1.2.2.1 x.1.1.2.2.2.1 x.1.1.2.2.2.2.1
  | 0 => Sig.zero
  | n + 1 => C.impl_tree_depth_r1 (C.impl_tree_depth_N n)
theorem C.impl_tree_depth : S.impl_tree_depth.ok X0 fun x => M.impl_tree_depth x.1.1.1 x.1.1.2.1 x.1.1.2.2.1 x.1.1.2.2.2.1 x.1.1.2.2.2.2.1 := Sig.lim C.impl_tree_depth_N
theorem M.impl_tree_depth_of {n : Nat} {t' : Int} {t'1 : Int} {t'2 : List UInt8} {t'3 : List UInt8} {t'4 : List Row} {r : Int} (h : M.impl_tree_depth_N n t' t'1 t'2 t'3 t'4 = some r) : M.impl_tree_depth t' t'1 t'2 t'3 t'4 = some r :=
  Sig.lim_of C.impl_tree_depth_N (by intro a b h; simp [S.impl_tree_depth, sg] at h; first | exact h | simp [Prod.ext_iff, h]) (x := (((t', t'1, t'2, t'3, t'4, ()), ()), ())) h
def M.impl_TreeOk_l9_C {R : Type} (l : List Row) (v10 : List Row) (v11 : Int) (v12 : Int) (v20 : List Row) (v21 : Int) (x' : Int) (x'1 : Int) (x'2 : List UInt8) (x'3 : List UInt8) (x'4 : List Row) (s : Int) (kn : Int → Option R) (ke : (Unit) ⊕ (Int) → Option R) : Option R := match s with
  | v22 =>
    bif decide (v22 < v21) then
     ((idx v20 v22).bind fun row460 =>
      ((cInt IntKind.i64 row460 0).bind fun n461 =>
       ((idx l n461).bind fun row462 =>
        ((cInt IntKind.i64 row462 0).bind fun n463 =>
         ((M.impl_kidOk x' x'1 x'2 x'3 x'4 v22 n463).bind fun r482 => (bif !r482 then (ke (.inl ())) else (kn (IntKind.i64.wrap (v22 + 1))))))))) else (ke (.inr v22))
def M.impl_TreeOk_l9_b (l : List Row) (v10 : List Row) (v11 : Int) (v12 : Int) (v20 : List Row) (v21 : Int) (x' : Int) (x'1 : Int) (x'2 : List UInt8) (x'3 : List UInt8) (x'4 : List Row) (s : Int) := M.impl_TreeOk_l9_C l v10 v11 v12 v20 v21 x' x'1 x'2 x'3 x'4 s (fun s => some (Sum.inl s)) fun t => some (Sum.inr t)
def M.impl_TreeOk_l9 (l : List Row) (v10 : List Row) (v11 : Int) (v12 : Int) (v20 : List Row) (v21 : Int) (x' : Int) (x'1 : Int) (x'2 : List UInt8) (x'3 : List UInt8) (x'4 : List Row) (s : Int) : Option ((Unit) ⊕ (Int)) := loopM (M.impl_TreeOk_l9_b l v10 v11 v12 v20 v21 x' x'1 x'2 x'3 x'4) s
def F.impl_TreeOk_l9 : LE X0 32 := le 9 (pSt [pAt 0 (pL false 5), pAt 4 (pP 300000 0), pAt 10 (pL false 5), pAt 11 pI, pAt 12 pI, pAt 20 (pL false 1), pAt 21 pI, pAt 22 pI] [pAt 300000 (cB 39 [pI, pI, pS, pS, pL false 1])]) (fun x => x.1.2.2.2.2.2.2.2.1) (fun x s => ((x.1.1, (), x.1.2.2.1, x.1.2.2.2.1, x.1.2.2.2.2.1, x.1.2.2.2.2.2.1, x.1.2.2.2.2.2.2.1, s, ()), ((x.2.1.1, x.2.1.2.1, x.2.1.2.2.1, x.2.1.2.2.2.1, x.2.1.2.2.2.2.1, ()), ()))) (fun x => .sum (.leaf (Unit) (fun t => (Ex.ret, { tm := [(2, V.d (D.bool false))], mem := [] }))) (.leaf (Int) (fun t => (Ex.exit 2, { tm := [(0, V.d (D.sl false 5 x.1.1)), (4, V.ptr 300000 0), (10, V.d (D.sl false 5 x.1.2.2.1)), (11, V.d (D.int IntKind.i64 x.1.2.2.2.1)), (12, V.d (D.int IntKind.i64 x.1.2.2.2.2.1)), (20, V.d (D.sl false 1 x.1.2.2.2.2.2.1)), (21, V.d (D.int IntKind.i64 x.1.2.2.2.2.2.2.1)), (22, V.d (D.int IntKind.i64 t)), (23, V.d (D.bool false))], mem := [(300000, Cell.box 39 [V.d (D.int IntKind.i64 x.2.1.1), V.d (D.int IntKind.i64 x.2.1.2.1), V.d (D.str x.2.1.2.2.1), V.d (D.str x.2.1.2.2.2.1), V.d (D.sl false 1 x.2.1.2.2.2.2.1)])] })))) (fun x => M.impl_TreeOk_l9_C x.1.1 x.1.2.2.1 x.1.2.2.2.1 x.1.2.2.2.2.1 x.1.2.2.2.2.2.1 x.1.2.2.2.2.2.2.1 x.2.1.1 x.2.1.2.1 x.2.1.2.2.1 x.2.1.2.2.2.1 x.2.1.2.2.2.2.1) [fe C.impl_kidOk] [] (by rintro _ _ _ _ _ <;> simp only [M.impl_TreeOk_l9_C, nb] <;> rfl)
def M.impl_TreeOk_l4_C {R : Type} (l : List Row) (v10 : List Row) (v11 : Int) (s : Int) (kn : Int → Option R) (ke : (Unit) ⊕ (Int) → Option R) : Option R := match s with
  | v12 =>
    bif decide (v12 < v11) then
     ((idx v10 v12).bind fun row341 =>
      ((cInt IntKind.i64 row341 0).bind fun n342 =>
       ((cInt IntKind.i64 row341 1).bind fun n343 =>
        ((cStr row341 2).bind fun s344 =>
         ((cStr row341 3).bind fun s345 =>
          ((cSl 1 row341 4).bind fun rows346 =>
           ((M.impl_FieldsOk n342 n343 s344 s345 rows346).bind fun r459 =>
            (bif !r459 then (ke (.inl ())) else
             ((M.impl_TreeOk_l9 l v10 v11 v12 rows346 ((↑rows346.length : Int)) n342 n343 s344 s345 rows346 0).bind fun u514 =>
             sumE u514 (fun t483 => (ke (.inl ()))) fun u515 =>
              letE u515 fun t484 => (kn (IntKind.i64.wrap (v12 + 1)))))))))))) else (ke (.inr v12))
def M.impl_TreeOk_l4_b (l : List Row) (v10 : List Row) (v11 : Int) (s : Int) := M.impl_TreeOk_l4_C l v10 v11 s (fun s => some (Sum.inl s)) fun t => some (Sum.inr t)
def M.impl_TreeOk_l4 (l : List Row) (v10 : List Row) (v11 : Int) (s : Int) : Option ((Unit) ⊕ (Int)) := loopM (M.impl_TreeOk_l4_b l v10 v11) s
def F.impl_TreeOk_l4 : LE X0 32 := le 4 (pSt [pAt 0 (pL false 5), pAt 10 (pL false 5), pAt 11 pI, pAt 12 pI] []) (fun x => x.1.2.2.2.1) (fun x s => ((x.1.1, x.1.2.1, x.1.2.2.1, s, ()), ())) (fun x => .sum (.leaf (Unit) (fun t => (Ex.ret, { tm := [(2, V.d (D.bool false))], mem := [] }))) (.leaf (Int) (fun t => (Ex.exit 0, { tm := [(0, V.d (D.sl false 5 x.1.1)), (10, V.d (D.sl false 5 x.1.2.1)), (11, V.d (D.int IntKind.i64 x.1.2.2.1)), (12, V.d (D.int IntKind.i64 t)), (13, V.d (D.bool false))], mem := [] })))) (fun x => M.impl_TreeOk_l4_C x.1.1 x.1.2.1 x.1.2.2.1) [fe C.impl_FieldsOk] [F.impl_TreeOk_l9] (by rintro _ _ _ _ _ <;> simp only [M.impl_TreeOk_l4_C, nb] <;> rfl)
def M.impl_TreeOk_C {R : Type} (l : List Row) (k : Bool → Option R) : Option R :=
  (M.impl_ShapeOk l).bind fun r340 =>
   (bif !r340 then (k false) else
    ((M.impl_TreeOk_l4 l l ((↑l.length : Int)) 0).bind fun u516 =>
    sumE u516 (fun t485 => (k false)) fun u517 =>
     letE u517 fun t486 =>
      ((M.impl_rootOf l).bind fun r504 =>
       ((M.impl_tree_depth r504.fst r504.snd.fst r504.snd.snd.fst r504.snd.snd.snd.fst (fzRows r504.snd.snd.snd.snd)).bind fun r513 => (k (decide (r513 ≤ 40)))))))
def M.impl_TreeOk (l : List Row) : Option (Bool) := M.impl_TreeOk_C l some
theorem C.impl_TreeOk : S.impl_TreeOk.ok X0 fun x => M.impl_TreeOk x.1.1 := fnS (fun x => M.impl_TreeOk_C x.1.1) [fe C.impl_ShapeOk, fe C.impl_rootOf, fe C.impl_tree_depth] [F.impl_TreeOk_l4] (by intros; simp only [M.impl_TreeOk_C, nb] <;> rfl)
def M.impl_ProgramOk_C {R : Type} (l : List Row) (k : Bool → Option R) : Option R :=
  (M.impl_TreeOk l).bind fun r518 =>
   (bif r518 then
    ((idx l (IntKind.i64.wrap ((↑l.length : Int) - 1))).bind fun row519 => ((cInt IntKind.i64 row519 0).bind fun n520 => (k (n520 == 45)))) else (k false))
def M.impl_ProgramOk (l : List Row) : Option (Bool) := M.impl_ProgramOk_C l some
theorem C.impl_ProgramOk : S.impl_ProgramOk.ok X0 fun x => M.impl_ProgramOk x.1.1 := fnS (fun x => M.impl_ProgramOk_C x.1.1) [fe C.impl_TreeOk] [] (by intros; simp only [M.impl_ProgramOk_C, nb] <;> rfl)
def M.cmp_isNaN_C {R : Type} (x' : List UInt8) (k : Bool → Option R) : Option R :=
  k (!x' == x')
def M.cmp_isNaN (x' : List UInt8) : Option (Bool) := M.cmp_isNaN_C x' some
theorem C.cmp_isNaN : S.cmp_isNaN.ok X0 fun x => M.cmp_isNaN x.1.1 := fnS (fun x => M.cmp_isNaN_C x.1.1) [] [] (by intros; simp only [M.cmp_isNaN_C, nb] <;> rfl)
def M.cmp_Compare_C {R : Type} (x' : List UInt8) (y : List UInt8) (k : Int → Option R) : Option R :=
  (M.cmp_isNaN x').bind fun r544 =>
   ((M.cmp_isNaN y).bind fun r545 =>
    (bif r544 then (bif r545 then (k 0) else (k (-1))) else
     (bif r545 then (k 1) else
      (bif Op.bytesLess x' y then (k (-1)) else (bif !(Op.bytesLess x' y || x' == y) then (k 1) else (k 0))))))
def M.cmp_Compare (x' : List UInt8) (y : List UInt8) : Option (Int) := M.cmp_Compare_C x' y some
theorem C.cmp_Compare : S.cmp_Compare.ok X0 fun x => M.cmp_Compare x.1.1 x.1.2.1 := fnS (fun x => M.cmp_Compare_C x.1.1 x.1.2.1) [fe C.cmp_isNaN] [] (by intros; simp only [M.cmp_Compare_C, nb] <;> rfl)
def M.impl_SortFuncs_c1_C {R : Type} (a : Int) (a1 : Int) (a2 : List UInt8) (a3 : List UInt8) (a4 : List Row) (b : Int) (b1 : Int) (b2 : List UInt8) (b3 : List UInt8) (b4 : List Row) (k : Int → Option R) : Option R :=
  (M.cmp_Compare a2 b2).bind fun r546 => (k r546)
def M.impl_SortFuncs_c1 (a : Int) (a1 : Int) (a2 : List UInt8) (a3 : List UInt8) (a4 : List Row) (b : Int) (b1 : Int) (b2 : List UInt8) (b3 : List UInt8) (b4 : List Row) : Option (Int) := M.impl_SortFuncs_c1_C a a1 a2 a3 a4 b b1 b2 b3 b4 some
theorem C.impl_SortFuncs_c1 : S.impl_SortFuncs_c1.ok X0 fun x => M.impl_SortFuncs_c1 x.1.1.1 x.1.1.2.1 x.1.1.2.2.1 x.1.1.2.2.2.1 x.1.1.2.2.2.2.1 x.1.2.1.1 x.1.2.1.2.1 x.1.2.1.2.2.1 x.1.2.1.2.2.2.1 x.1.2.1.2.2.2.2.1 := fnS (fun x => M.impl_SortFuncs_c1_C x.1.1.1 x.1.1.2.1 x.1.1.2.2.1 x.1.1.2.2.2.1 x.1.1.2.2.2.2.1 x.1.2.1.1 x.1.2.1.2.1 x.1.2.1.2.2.1 x.1.2.1.2.2.2.1 x.1.2.1.2.2.2.2.1) [fe C.cmp_Compare] [] (by intros; simp only [M.impl_SortFuncs_c1_C, nb] <;> rfl)
def M.slices_insertionSortCmpFunc_l4_C {R : Type} (a : Int) (b : Int) (i : Int) (s : Int × List Row) (kn : Int × List Row → Option R) (ke : Int × List Row → Option R) : Option R := match s with
  | (j, v) =>
    bif decide (j > a) then
     ((idx v j).bind fun row530 =>
      (v[j.toNat]?.bind fun row531 =>
       ((cInt IntKind.i64 row531 0).bind fun n532 =>
        ((cInt IntKind.i64 row531 1).bind fun n533 =>
         ((cStr row531 2).bind fun s534 =>
          ((cStr row531 3).bind fun s535 =>
           ((cRo 5 row531 4).bind fun rows536 =>
            ((idx v (IntKind.i64.wrap (j - 1))).bind fun row537 =>
             ((v[(IntKind.i64.wrap (j - 1)).toNat]?).bind fun row538 =>
              ((cInt IntKind.i64 row538 0).bind fun n539 =>
               ((cInt IntKind.i64 row538 1).bind fun n540 =>
                ((cStr row538 2).bind fun s541 =>
                 ((cStr row538 3).bind fun s542 =>
                  ((cRo 5 row538 4).bind fun rows543 =>
                   ((M.impl_SortFuncs_c1 n532 n533 s534 s535 rows536 n539 n540 s541 s542 rows543).bind fun r547 =>
                    (bif decide (r547 < 0) then
                     ((idx v (IntKind.i64.wrap (j - 1))).bind fun row548 =>
                      ((v[(IntKind.i64.wrap (j - 1)).toNat]?).bind fun row549 =>
                       ((cInt IntKind.i64 row549 0).bind fun n550 =>
                        ((cInt IntKind.i64 row549 1).bind fun n551 =>
                         ((cStr row549 2).bind fun s552 =>
                          ((cStr row549 3).bind fun s553 =>
                           ((cRo 5 row549 4).bind fun rows554 =>
                            ((idx v j).bind fun row555 =>
                             (v[j.toNat]?.bind fun row556 =>
                              ((cInt IntKind.i64 row556 0).bind fun n557 =>
                               ((cInt IntKind.i64 row556 1).bind fun n558 =>
                                ((cStr row556 2).bind fun s559 =>
                                 ((cStr row556 3).bind fun s560 =>
                                  ((cRo 5 row556 4).bind fun rows561 =>
                                   ((idx v j).bind fun row562 =>
                                    (v[j.toNat]?.bind fun row563 =>
                                     ((idx (v.set j.toNat (splice row563 0 [D.int IntKind.i64 n550, D.int IntKind.i64 n551, D.str s552, D.str s553, D.sl false 5 rows554])) (IntKind.i64.wrap (j - 1))).bind fun row564 =>
                                      (((v.set j.toNat (splice row563 0 [D.int IntKind.i64 n550, D.int IntKind.i64 n551, D.str s552, D.str s553, D.sl false 5 rows554]))[(IntKind.i64.wrap (j - 1)).toNat]?).bind fun row565 =>
                                       (kn ((IntKind.i64.wrap (j - 1), (v.set j.toNat (splice row563 0 [D.int IntKind.i64 n550, D.int IntKind.i64 n551, D.str s552, D.str s553, D.sl false 5 rows554])).set (IntKind.i64.wrap (j - 1)).toNat (splice row565 0 [D.int IntKind.i64 n557, D.int IntKind.i64 n558, D.str s559, D.str s560, D.sl false 5 rows561])))))))))))))))))))))) else (ke ((j, v))))))))))))))))))) else (ke ((j, v)))
def M.slices_insertionSortCmpFunc_l4_b (a : Int) (b : Int) (i : Int) (s : Int × List Row) := M.slices_insertionSortCmpFunc_l4_C a b i s (fun s => some (Sum.inl s)) fun t => some (Sum.inr t)
def M.slices_insertionSortCmpFunc_l4 (a : Int) (b : Int) (i : Int) (s : Int × List Row) : Option (Int × List Row) := loopM (M.slices_insertionSortCmpFunc_l4_b a b i) s
def F.slices_insertionSortCmpFunc_l4 : LE X0 47 := le 4 (pSt [pAt 0 (pO 100000 0), pAt 1 pI, pAt 2 pI, pAt 3 (pClo 20 [] []), pAt 8 pI, pAt 9 pI] [pAt 100000 (cA false false 0 5)]) (fun x => (x.1.2.2.2.2.2.1, x.2.1)) (fun x s => (((), x.1.2.1, x.1.2.2.1, ((), ()), x.1.2.2.2.2.1, s.1, ()), (s.2, ()))) (fun x => .leaf (Int × List Row) (fun t => (Ex.exit 2, { tm := [(0, V.own 100000 0), (1, V.d (D.int IntKind.i64 x.1.2.1)), (2, V.d (D.int IntKind.i64 x.1.2.2.1)), (3, V.clo 20 [] []), (8, V.d (D.int IntKind.i64 x.1.2.2.2.2.1)), (9, V.d (D.int IntKind.i64 t.fst)), (34, V.d (D.bool false))], mem := [(100000, Cell.arr false false 0 5 t.snd)] }))) (fun x => M.slices_insertionSortCmpFunc_l4_C x.1.2.1 x.1.2.2.1 x.1.2.2.2.2.1) [fe C.impl_SortFuncs_c1] [] (by rintro _ _ ⟨_, _⟩ _ _ <;> simp only [M.slices_insertionSortCmpFunc_l4_C, nb] <;> rfl)
def M.slices_insertionSortCmpFunc_l1_C {R : Type} (a : Int) (b : Int) (s : Int × List Row) (kn : Int × List Row → Option R) (ke : Int × List Row → Option R) : Option R := match s with
  | (i, v) =>
    bif decide (i < b) then
     ((M.slices_insertionSortCmpFunc_l4 a b i ((i, v))).bind fun t566 => (kn ((IntKind.i64.wrap (i + 1), t566.snd)))) else (ke ((i, v)))
def M.slices_insertionSortCmpFunc_l1_b (a : Int) (b : Int) (s : Int × List Row) := M.slices_insertionSortCmpFunc_l1_C a b s (fun s => some (Sum.inl s)) fun t => some (Sum.inr t)
def M.slices_insertionSortCmpFunc_l1 (a : Int) (b : Int) (s : Int × List Row) : Option (Int × List Row) := loopM (M.slices_insertionSortCmpFunc_l1_b a b) s
def F.slices_insertionSortCmpFunc_l1 : LE X0 47 := le 1 (pSt [pAt 0 (pO 100000 0), pAt 1 pI, pAt 2 pI, pAt 3 (pClo 20 [] []), pAt 8 pI] [pAt 100000 (cA false false 0 5)]) (fun x => (x.1.2.2.2.2.1, x.2.1)) (fun x s => (((), x.1.2.1, x.1.2.2.1, ((), ()), s.1, ()), (s.2, ()))) (fun x => .leaf (Int × List Row) (fun t => (Ex.exit 0, { tm := [(0, V.own 100000 0), (1, V.d (D.int IntKind.i64 x.1.2.1)), (2, V.d (D.int IntKind.i64 x.1.2.2.1)), (3, V.clo 20 [] []), (8, V.d (D.int IntKind.i64 t.fst)), (14, V.d (D.bool false))], mem := [(100000, Cell.arr false false 0 5 t.snd)] }))) (fun x => M.slices_insertionSortCmpFunc_l1_C x.1.2.1 x.1.2.2.1) [] [F.slices_insertionSortCmpFunc_l4] (by rintro _ _ ⟨_, _⟩ _ _ <;> simp only [M.slices_insertionSortCmpFunc_l1_C, nb] <;> rfl)
def M.slices_insertionSortCmpFunc_C {R : Type} (a : Int) (b : Int) (c : List Row) (k : List Row → Option R) : Option R :=
  (M.slices_insertionSortCmpFunc_l1 a b ((IntKind.i64.wrap (a + 1), c))).bind fun t567 => (k t567.snd)
def M.slices_insertionSortCmpFunc (a : Int) (b : Int) (c : List Row) : Option (List Row) := M.slices_insertionSortCmpFunc_C a b c some
theorem C.slices_insertionSortCmpFunc : S.slices_insertionSortCmpFunc.ok X0 fun x => M.slices_insertionSortCmpFunc x.1.2.1 x.1.2.2.1 x.2.1 := fnS (fun x => M.slices_insertionSortCmpFunc_C x.1.2.1 x.1.2.2.1 x.2.1) [] [F.slices_insertionSortCmpFunc_l1] (by intros; simp only [M.slices_insertionSortCmpFunc_C, nb] <;> rfl)
def M.slices_swapRangeCmpFunc_l1_C {R : Type} (a : Int) (b : Int) (n' : Int) (s : Int × List Row) (kn : Int × List Row → Option R) (ke : Int × List Row → Option R) : Option R := match s with
  | (i, v) =>
    bif decide (i < n') then
     ((idx v (IntKind.i64.wrap (b + i))).bind fun row657 =>
      ((v[(IntKind.i64.wrap (b + i)).toNat]?).bind fun row658 =>
       ((cInt IntKind.i64 row658 0).bind fun n659 =>
        ((cInt IntKind.i64 row658 1).bind fun n660 =>
         ((cStr row658 2).bind fun s661 =>
          ((cStr row658 3).bind fun s662 =>
           ((cRo 5 row658 4).bind fun rows663 =>
            ((idx v (IntKind.i64.wrap (a + i))).bind fun row664 =>
             ((v[(IntKind.i64.wrap (a + i)).toNat]?).bind fun row665 =>
              ((cInt IntKind.i64 row665 0).bind fun n666 =>
               ((cInt IntKind.i64 row665 1).bind fun n667 =>
                ((cStr row665 2).bind fun s668 =>
                 ((cStr row665 3).bind fun s669 =>
                  ((cRo 5 row665 4).bind fun rows670 =>
                   ((idx v (IntKind.i64.wrap (a + i))).bind fun row671 =>
                    ((v[(IntKind.i64.wrap (a + i)).toNat]?).bind fun row672 =>
                     ((idx (v.set (IntKind.i64.wrap (a + i)).toNat (splice row672 0 [D.int IntKind.i64 n659, D.int IntKind.i64 n660, D.str s661, D.str s662, D.sl false 5 rows663])) (IntKind.i64.wrap (b + i))).bind fun row673 =>
                      (((v.set (IntKind.i64.wrap (a + i)).toNat (splice row672 0 [D.int IntKind.i64 n659, D.int IntKind.i64 n660, D.str s661, D.str s662, D.sl false 5 rows663]))[(IntKind.i64.wrap (b + i)).toNat]?).bind fun row674 =>
                       (kn ((IntKind.i64.wrap (i + 1), (v.set (IntKind.i64.wrap (a + i)).toNat (splice row672 0 [D.int IntKind.i64 n659, D.int IntKind.i64 n660, D.str s661, D.str s662, D.sl false 5 rows663])).set (IntKind.i64.wrap (b + i)).toNat (splice row674 0 [D.int IntKind.i64 n666, D.int IntKind.i64 n667, D.str s668, D.str s669, D.sl false 5 rows670])))))))))))))))))))))) else (ke ((i, v)))
def M.slices_swapRangeCmpFunc_l1_b (a : Int) (b : Int) (n' : Int) (s : Int × List Row) := M.slices_swapRangeCmpFunc_l1_C a b n' s (fun s => some (Sum.inl s)) fun t => some (Sum.inr t)
def M.slices_swapRangeCmpFunc_l1 (a : Int) (b : Int) (n' : Int) (s : Int × List Row) : Option (Int × List Row) := loopM (M.slices_swapRangeCmpFunc_l1_b a b n') s
def F.slices_swapRangeCmpFunc_l1 : LE X0 79 := le 1 (pSt [pAt 0 (pO 100000 0), pAt 1 pI, pAt 2 pI, pAt 3 pI, pAt 10 pI] [pAt 100000 (cA false false 0 5)]) (fun x => (x.1.2.2.2.2.1, x.2.1)) (fun x s => (((), x.1.2.1, x.1.2.2.1, x.1.2.2.2.1, s.1, ()), (s.2, ()))) (fun x => .leaf (Int × List Row) (fun t => (Ex.exit 0, { tm := [(0, V.own 100000 0), (1, V.d (D.int IntKind.i64 x.1.2.1)), (2, V.d (D.int IntKind.i64 x.1.2.2.1)), (3, V.d (D.int IntKind.i64 x.1.2.2.2.1)), (10, V.d (D.int IntKind.i64 t.fst)), (13, V.d (D.bool false))], mem := [(100000, Cell.arr false false 0 5 t.snd)] }))) (fun x => M.slices_swapRangeCmpFunc_l1_C x.1.2.1 x.1.2.2.1 x.1.2.2.2.1) [] [] (by rintro _ _ ⟨_, _⟩ _ _ <;> simp only [M.slices_swapRangeCmpFunc_l1_C, nb] <;> rfl)
def M.slices_swapRangeCmpFunc_C {R : Type} (a : Int) (b : Int) (n' : Int) (c : List Row) (k : List Row → Option R) : Option R :=
  (M.slices_swapRangeCmpFunc_l1 a b n' ((0, c))).bind fun t675 => (k t675.snd)
def M.slices_swapRangeCmpFunc (a : Int) (b : Int) (n' : Int) (c : List Row) : Option (List Row) := M.slices_swapRangeCmpFunc_C a b n' c some
theorem C.slices_swapRangeCmpFunc : S.slices_swapRangeCmpFunc.ok X0 fun x => M.slices_swapRangeCmpFunc x.1.2.1 x.1.2.2.1 x.1.2.2.2.1 x.2.1 := fnS (fun x => M.slices_swapRangeCmpFunc_C x.1.2.1 x.1.2.2.1 x.1.2.2.2.1 x.2.1) [] [F.slices_swapRangeCmpFunc_l1] (by intros; simp only [M.slices_swapRangeCmpFunc_C, nb] <;> rfl)
def M.slices_rotateCmpFunc_l2_C {R : Type} (m : Int) (s : Int × Int × List Row) (kn : Int × Int × List Row → Option R) (ke : Int × Int × List Row → Option R) : Option R := match s with
  | (i, j, v) =>
    bif i != j then
     (bif decide (i > j) then
      ((M.slices_swapRangeCmpFunc (IntKind.i64.wrap (m - i)) m j v).bind fun r676 => (kn ((IntKind.i64.wrap (i - j), j, r676)))) else
      ((M.slices_swapRangeCmpFunc (IntKind.i64.wrap (m - i)) (IntKind.i64.wrap (IntKind.i64.wrap (m + j) - i)) i v).bind fun r677 => (kn ((i, IntKind.i64.wrap (j - i), r677))))) else (ke ((i, j, v)))
def M.slices_rotateCmpFunc_l2_b (m : Int) (s : Int × Int × List Row) := M.slices_rotateCmpFunc_l2_C m s (fun s => some (Sum.inl s)) fun t => some (Sum.inr t)
def M.slices_rotateCmpFunc_l2 (m : Int) (s : Int × Int × List Row) : Option (Int × Int × List Row) := loopM (M.slices_rotateCmpFunc_l2_b m) s
def F.slices_rotateCmpFunc_l2 : LE X0 65 := le 2 (pSt [pAt 0 (pO 100000 0), pAt 2 pI, pAt 4 (pClo 20 [] []), pAt 10 pI, pAt 11 pI] [pAt 100000 (cA false false 0 5)]) (fun x => (x.1.2.2.2.1, x.1.2.2.2.2.1, x.2.1)) (fun x s => (((), x.1.2.1, ((), ()), s.1, s.2.1, ()), (s.2.2, ()))) (fun x => .leaf (Int × Int × List Row) (fun t => (Ex.exit 0, { tm := [(0, V.own 100000 0), (2, V.d (D.int IntKind.i64 x.1.2.1)), (4, V.clo 20 [] []), (10, V.d (D.int IntKind.i64 t.fst)), (11, V.d (D.int IntKind.i64 t.snd.fst)), (20, V.d (D.bool false))], mem := [(100000, Cell.arr false false 0 5 t.snd.snd)] }))) (fun x => M.slices_rotateCmpFunc_l2_C x.1.2.1) [fe C.slices_swapRangeCmpFunc] [] (by rintro _ _ ⟨_, _, _⟩ _ _ <;> simp only [M.slices_rotateCmpFunc_l2_C, nb] <;> rfl)
def M.slices_rotateCmpFunc_C {R : Type} (a : Int) (m : Int) (b : Int) (c : List Row) (k : List Row → Option R) : Option R :=
  (M.slices_rotateCmpFunc_l2 m ((IntKind.i64.wrap (m - a), IntKind.i64.wrap (b - m), c))).bind fun t678 =>
   ((M.slices_swapRangeCmpFunc (IntKind.i64.wrap (m - t678.fst)) m t678.fst t678.snd.snd).bind fun r679 => (k r679))
def M.slices_rotateCmpFunc (a : Int) (m : Int) (b : Int) (c : List Row) : Option (List Row) := M.slices_rotateCmpFunc_C a m b c some
theorem C.slices_rotateCmpFunc : S.slices_rotateCmpFunc.ok X0 fun x => M.slices_rotateCmpFunc x.1.2.1 x.1.2.2.1 x.1.2.2.2.1 x.2.1 := fnS (fun x => M.slices_rotateCmpFunc_C x.1.2.1 x.1.2.2.1 x.1.2.2.2.1 x.2.1) [fe C.slices_swapRangeCmpFunc] [F.slices_rotateCmpFunc_l2] (by intros; simp only [M.slices_rotateCmpFunc_C, nb] <;> rfl)
def M.slices_symMergeCmpFunc_l3_C {R : Type} (rec_slices_symMergeCmpFunc : Int → Int → Int → List Row → Option (List Row)) (a : Int) (v : List Row) (s : Int × Int) (kn : Int × Int → Option R) (ke : Int × Int → Option R) : Option R := match s with
  | (i, j) =>
    bif decide (i < j) then
     ((idx v (IntKind.i64.wrap ((IntKind.u64.wrap (IntKind.i64.wrap (i + j))).fdiv 2))).bind fun row571 =>
      ((v[(IntKind.i64.wrap ((IntKind.u64.wrap (IntKind.i64.wrap (i + j))).fdiv 2)).toNat]?).bind fun row572 =>
       ((cInt IntKind.i64 row572 0).bind fun n573 =>
        ((cInt IntKind.i64 row572 1).bind fun n574 =>
         ((cStr row572 2).bind fun s575 =>
          ((cStr row572 3).bind fun s576 =>
           ((cRo 5 row572 4).bind fun rows577 =>
            ((idx v a).bind fun row578 =>
             (v[a.toNat]?.bind fun row579 =>
              ((cInt IntKind.i64 row579 0).bind fun n580 =>
               ((cInt IntKind.i64 row579 1).bind fun n581 =>
                ((cStr row579 2).bind fun s582 =>
                 ((cStr row579 3).bind fun s583 =>
                  ((cRo 5 row579 4).bind fun rows584 =>
                   ((M.impl_SortFuncs_c1 n573 n574 s575 s576 rows577 n580 n581 s582 s583 rows584).bind fun r585 =>
                    (bif decide (r585 < 0) then
                     (kn ((IntKind.i64.wrap (IntKind.i64.wrap ((IntKind.u64.wrap (IntKind.i64.wrap (i + j))).fdiv 2) + 1), j))) else (kn ((i, IntKind.i64.wrap ((IntKind.u64.wrap (IntKind.i64.wrap (i + j))).fdiv 2)))))))))))))))))))) else (ke ((i, j)))
def M.slices_symMergeCmpFunc_l3_b (rec_slices_symMergeCmpFunc : Int → Int → Int → List Row → Option (List Row)) (a : Int) (v : List Row) (s : Int × Int) := M.slices_symMergeCmpFunc_l3_C rec_slices_symMergeCmpFunc a v s (fun s => some (Sum.inl s)) fun t => some (Sum.inr t)
def M.slices_symMergeCmpFunc_l3 (rec_slices_symMergeCmpFunc : Int → Int → Int → List Row → Option (List Row)) (a : Int) (v : List Row) (s : Int × Int) : Option (Int × Int) := loopM (M.slices_symMergeCmpFunc_l3_b rec_slices_symMergeCmpFunc a v) s
def F.slices_symMergeCmpFunc_l3 {rec_slices_symMergeCmpFunc : Int → Int → Int → List Row → Option (List Row)} (h_slices_symMergeCmpFunc : S.slices_symMergeCmpFunc.ok X0 fun x => rec_slices_symMergeCmpFunc x.1.2.1 x.1.2.2.1 x.1.2.2.2.1 x.2.1) : LE X0 48 := le 3 (pSt [pAt 0 (pO 100000 0), pAt 1 pI, pAt 4 (pClo 20 [] []), pAt 10 pI, pAt 11 pI] [pAt 100000 (cA false false 0 5)]) (fun x => (x.1.2.2.2.1, x.1.2.2.2.2.1)) (fun x s => (((), x.1.2.1, ((), ()), s.1, s.2, ()), (x.2.1, ()))) (fun x => .leaf (Int × Int) (fun t => (Ex.exit 0, { tm := [(0, V.own 100000 0), (1, V.d (D.int IntKind.i64 x.1.2.1)), (4, V.clo 20 [] []), (10, V.d (D.int IntKind.i64 t.fst)), (11, V.d (D.int IntKind.i64 t.snd)), (33, V.d (D.bool false))], mem := [(100000, Cell.arr false false 0 5 x.2.1)] }))) (fun x => M.slices_symMergeCmpFunc_l3_C rec_slices_symMergeCmpFunc x.1.2.1 x.2.1) [fe C.impl_SortFuncs_c1] [] (by rintro _ _ ⟨_, _⟩ _ _ <;> simp only [M.slices_symMergeCmpFunc_l3_C, nb] <;> rfl)
def M.slices_symMergeCmpFunc_l9_C {R : Type} (rec_slices_symMergeCmpFunc : Int → Int → Int → List Row → Option (List Row)) (i : Int) (s : Int × List Row) (kn : Int × List Row → Option R) (ke : Int × List Row → Option R) : Option R := match s with
  | (k', v) =>
    bif decide (k' < IntKind.i64.wrap (i - 1)) then
     ((idx v (IntKind.i64.wrap (k' + 1))).bind fun row587 =>
      ((v[(IntKind.i64.wrap (k' + 1)).toNat]?).bind fun row588 =>
       ((cInt IntKind.i64 row588 0).bind fun n589 =>
        ((cInt IntKind.i64 row588 1).bind fun n590 =>
         ((cStr row588 2).bind fun s591 =>
          ((cStr row588 3).bind fun s592 =>
           ((cRo 5 row588 4).bind fun rows593 =>
            ((idx v k').bind fun row594 =>
             (v[k'.toNat]?.bind fun row595 =>
              ((cInt IntKind.i64 row595 0).bind fun n596 =>
               ((cInt IntKind.i64 row595 1).bind fun n597 =>
                ((cStr row595 2).bind fun s598 =>
                 ((cStr row595 3).bind fun s599 =>
                  ((cRo 5 row595 4).bind fun rows600 =>
                   ((idx v k').bind fun row601 =>
                    (v[k'.toNat]?.bind fun row602 =>
                     ((idx (v.set k'.toNat (splice row602 0 [D.int IntKind.i64 n589, D.int IntKind.i64 n590, D.str s591, D.str s592, D.sl false 5 rows593])) (IntKind.i64.wrap (k' + 1))).bind fun row603 =>
                      (((v.set k'.toNat (splice row602 0 [D.int IntKind.i64 n589, D.int IntKind.i64 n590, D.str s591, D.str s592, D.sl false 5 rows593]))[(IntKind.i64.wrap (k' + 1)).toNat]?).bind fun row604 =>
                       (kn ((IntKind.i64.wrap (k' + 1), (v.set k'.toNat (splice row602 0 [D.int IntKind.i64 n589, D.int IntKind.i64 n590, D.str s591, D.str s592, D.sl false 5 rows593])).set (IntKind.i64.wrap (k' + 1)).toNat (splice row604 0 [D.int IntKind.i64 n596, D.int IntKind.i64 n597, D.str s598, D.str s599, D.sl false 5 rows600])))))))))))))))))))))) else (ke ((k', v)))
def M.slices_symMergeCmpFunc_l9_b (rec_slices_symMergeCmpFunc : Int → Int → Int → List Row → Option (List Row)) (i : Int) (s : Int × List Row) := M.slices_symMergeCmpFunc_l9_C rec_slices_symMergeCmpFunc i s (fun s => some (Sum.inl s)) fun t => some (Sum.inr t)
def M.slices_symMergeCmpFunc_l9 (rec_slices_symMergeCmpFunc : Int → Int → Int → List Row → Option (List Row)) (i : Int) (s : Int × List Row) : Option (Int × List Row) := loopM (M.slices_symMergeCmpFunc_l9_b rec_slices_symMergeCmpFunc i) s
def F.slices_symMergeCmpFunc_l9 {rec_slices_symMergeCmpFunc : Int → Int → Int → List Row → Option (List Row)} (h_slices_symMergeCmpFunc : S.slices_symMergeCmpFunc.ok X0 fun x => rec_slices_symMergeCmpFunc x.1.2.1 x.1.2.2.1 x.1.2.2.2.1 x.2.1) : LE X0 48 := le 9 (pSt [pAt 0 (pO 100000 0), pAt 10 pI, pAt 13 pI] [pAt 100000 (cA false false 0 5)]) (fun x => (x.1.2.2.1, x.2.1)) (fun x s => (((), x.1.2.1, s.1, ()), (s.2, ()))) (fun x => .leaf (Int × List Row) (fun t => (Ex.exit 2, { tm := [(0, V.own 100000 0), (10, V.d (D.int IntKind.i64 x.1.2.1)), (13, V.d (D.int IntKind.i64 t.fst)), (58, V.d (D.bool false))], mem := [(100000, Cell.arr false false 0 5 t.snd)] }))) (fun x => M.slices_symMergeCmpFunc_l9_C rec_slices_symMergeCmpFunc x.1.2.1) [] [] (by rintro _ _ ⟨_, _⟩ _ _ <;> simp only [M.slices_symMergeCmpFunc_l9_C, nb] <;> rfl)
def M.slices_symMergeCmpFunc_l15_C {R : Type} (rec_slices_symMergeCmpFunc : Int → Int → Int → List Row → Option (List Row)) (m : Int) (v : List Row) (s : Int × Int) (kn : Int × Int → Option R) (ke : Int × Int → Option R) : Option R := match s with
  | (i, j) =>
    bif decide (i < j) then
     ((idx v m).bind fun row606 =>
      (v[m.toNat]?.bind fun row607 =>
       ((cInt IntKind.i64 row607 0).bind fun n608 =>
        ((cInt IntKind.i64 row607 1).bind fun n609 =>
         ((cStr row607 2).bind fun s610 =>
          ((cStr row607 3).bind fun s611 =>
           ((cRo 5 row607 4).bind fun rows612 =>
            ((idx v (IntKind.i64.wrap ((IntKind.u64.wrap (IntKind.i64.wrap (i + j))).fdiv 2))).bind fun row613 =>
             ((v[(IntKind.i64.wrap ((IntKind.u64.wrap (IntKind.i64.wrap (i + j))).fdiv 2)).toNat]?).bind fun row614 =>
              ((cInt IntKind.i64 row614 0).bind fun n615 =>
               ((cInt IntKind.i64 row614 1).bind fun n616 =>
                ((cStr row614 2).bind fun s617 =>
                 ((cStr row614 3).bind fun s618 =>
                  ((cRo 5 row614 4).bind fun rows619 =>
                   ((M.impl_SortFuncs_c1 n608 n609 s610 s611 rows612 n615 n616 s617 s618 rows619).bind fun r620 =>
                    (bif !decide (r620 < 0) then
                     (kn ((IntKind.i64.wrap (IntKind.i64.wrap ((IntKind.u64.wrap (IntKind.i64.wrap (i + j))).fdiv 2) + 1), j))) else (kn ((i, IntKind.i64.wrap ((IntKind.u64.wrap (IntKind.i64.wrap (i + j))).fdiv 2)))))))))))))))))))) else (ke ((i, j)))
def M.slices_symMergeCmpFunc_l15_b (rec_slices_symMergeCmpFunc : Int → Int → Int → List Row → Option (List Row)) (m : Int) (v : List Row) (s : Int × Int) := M.slices_symMergeCmpFunc_l15_C rec_slices_symMergeCmpFunc m v s (fun s => some (Sum.inl s)) fun t => some (Sum.inr t)
def M.slices_symMergeCmpFunc_l15 (rec_slices_symMergeCmpFunc : Int → Int → Int → List Row → Option (List Row)) (m : Int) (v : List Row) (s : Int × Int) : Option (Int × Int) := loopM (M.slices_symMergeCmpFunc_l15_b rec_slices_symMergeCmpFunc m v) s
def F.slices_symMergeCmpFunc_l15 {rec_slices_symMergeCmpFunc : Int → Int → Int → List Row → Option (List Row)} (h_slices_symMergeCmpFunc : S.slices_symMergeCmpFunc.ok X0 fun x => rec_slices_symMergeCmpFunc x.1.2.1 x.1.2.2.1 x.1.2.2.2.1 x.2.1) : LE X0 48 := le 15 (pSt [pAt 0 (pO 100000 0), pAt 2 pI, pAt 4 (pClo 20 [] []), pAt 14 pI, pAt 15 pI] [pAt 100000 (cA false false 0 5)]) (fun x => (x.1.2.2.2.1, x.1.2.2.2.2.1)) (fun x s => (((), x.1.2.1, ((), ()), s.1, s.2, ()), (x.2.1, ()))) (fun x => .leaf (Int × Int) (fun t => (Ex.exit 4, { tm := [(0, V.own 100000 0), (2, V.d (D.int IntKind.i64 x.1.2.1)), (4, V.clo 20 [] []), (14, V.d (D.int IntKind.i64 t.fst)), (15, V.d (D.int IntKind.i64 t.snd)), (85, V.d (D.bool false))], mem := [(100000, Cell.arr false false 0 5 x.2.1)] }))) (fun x => M.slices_symMergeCmpFunc_l15_C rec_slices_symMergeCmpFunc x.1.2.1 x.2.1) [fe C.impl_SortFuncs_c1] [] (by rintro _ _ ⟨_, _⟩ _ _ <;> simp only [M.slices_symMergeCmpFunc_l15_C, nb] <;> rfl)
def M.slices_symMergeCmpFunc_l21_C {R : Type} (rec_slices_symMergeCmpFunc : Int → Int → Int → List Row → Option (List Row)) (i : Int) (s : Int × List Row) (kn : Int × List Row → Option R) (ke : Int × List Row → Option R) : Option R := match s with
  | (k', v) =>
    bif decide (k' > i) then
     ((idx v (IntKind.i64.wrap (k' - 1))).bind fun row622 =>
      ((v[(IntKind.i64.wrap (k' - 1)).toNat]?).bind fun row623 =>
       ((cInt IntKind.i64 row623 0).bind fun n624 =>
        ((cInt IntKind.i64 row623 1).bind fun n625 =>
         ((cStr row623 2).bind fun s626 =>
          ((cStr row623 3).bind fun s627 =>
           ((cRo 5 row623 4).bind fun rows628 =>
            ((idx v k').bind fun row629 =>
             (v[k'.toNat]?.bind fun row630 =>
              ((cInt IntKind.i64 row630 0).bind fun n631 =>
               ((cInt IntKind.i64 row630 1).bind fun n632 =>
                ((cStr row630 2).bind fun s633 =>
                 ((cStr row630 3).bind fun s634 =>
                  ((cRo 5 row630 4).bind fun rows635 =>
                   ((idx v k').bind fun row636 =>
                    (v[k'.toNat]?.bind fun row637 =>
                     ((idx (v.set k'.toNat (splice row637 0 [D.int IntKind.i64 n624, D.int IntKind.i64 n625, D.str s626, D.str s627, D.sl false 5 rows628])) (IntKind.i64.wrap (k' - 1))).bind fun row638 =>
                      (((v.set k'.toNat (splice row637 0 [D.int IntKind.i64 n624, D.int IntKind.i64 n625, D.str s626, D.str s627, D.sl false 5 rows628]))[(IntKind.i64.wrap (k' - 1)).toNat]?).bind fun row639 =>
                       (kn ((IntKind.i64.wrap (k' - 1), (v.set k'.toNat (splice row637 0 [D.int IntKind.i64 n624, D.int IntKind.i64 n625, D.str s626, D.str s627, D.sl false 5 rows628])).set (IntKind.i64.wrap (k' - 1)).toNat (splice row639 0 [D.int IntKind.i64 n631, D.int IntKind.i64 n632, D.str s633, D.str s634, D.sl false 5 rows635])))))))))))))))))))))) else (ke ((k', v)))
def M.slices_symMergeCmpFunc_l21_b (rec_slices_symMergeCmpFunc : Int → Int → Int → List Row → Option (List Row)) (i : Int) (s : Int × List Row) := M.slices_symMergeCmpFunc_l21_C rec_slices_symMergeCmpFunc i s (fun s => some (Sum.inl s)) fun t => some (Sum.inr t)
def M.slices_symMergeCmpFunc_l21 (rec_slices_symMergeCmpFunc : Int → Int → Int → List Row → Option (List Row)) (i : Int) (s : Int × List Row) : Option (Int × List Row) := loopM (M.slices_symMergeCmpFunc_l21_b rec_slices_symMergeCmpFunc i) s
def F.slices_symMergeCmpFunc_l21 {rec_slices_symMergeCmpFunc : Int → Int → Int → List Row → Option (List Row)} (h_slices_symMergeCmpFunc : S.slices_symMergeCmpFunc.ok X0 fun x => rec_slices_symMergeCmpFunc x.1.2.1 x.1.2.2.1 x.1.2.2.2.1 x.2.1) : LE X0 48 := le 21 (pSt [pAt 0 (pO 100000 0), pAt 14 pI, pAt 17 pI] [pAt 100000 (cA false false 0 5)]) (fun x => (x.1.2.2.1, x.2.1)) (fun x s => (((), x.1.2.1, s.1, ()), (s.2, ()))) (fun x => .leaf (Int × List Row) (fun t => (Ex.exit 6, { tm := [(0, V.own 100000 0), (14, V.d (D.int IntKind.i64 x.1.2.1)), (17, V.d (D.int IntKind.i64 t.fst)), (110, V.d (D.bool false))], mem := [(100000, Cell.arr false false 0 5 t.snd)] }))) (fun x => M.slices_symMergeCmpFunc_l21_C rec_slices_symMergeCmpFunc x.1.2.1) [] [] (by rintro _ _ ⟨_, _⟩ _ _ <;> simp only [M.slices_symMergeCmpFunc_l21_C, nb] <;> rfl)
def M.slices_symMergeCmpFunc_l33_C {R : Type} (rec_slices_symMergeCmpFunc : Int → Int → Int → List Row → Option (List Row)) (a : Int) (m : Int) (b : Int) (mid : Int) (n' : Int) (p : Int) (v : List Row) (s : Int × Int) (kn : Int × Int → Option R) (ke : Int × Int → Option R) : Option R := match s with
  | (start, r') =>
    bif decide (start < r') then
     ((idx v (IntKind.i64.wrap (p - IntKind.i64.wrap ((IntKind.u64.wrap (IntKind.i64.wrap (start + r'))).fdiv 2)))).bind fun row641 =>
      ((v[(IntKind.i64.wrap (p - IntKind.i64.wrap ((IntKind.u64.wrap (IntKind.i64.wrap (start + r'))).fdiv 2))).toNat]?).bind fun row642 =>
       ((cInt IntKind.i64 row642 0).bind fun n643 =>
        ((cInt IntKind.i64 row642 1).bind fun n644 =>
         ((cStr row642 2).bind fun s645 =>
          ((cStr row642 3).bind fun s646 =>
           ((cRo 5 row642 4).bind fun rows647 =>
            ((idx v (IntKind.i64.wrap ((IntKind.u64.wrap (IntKind.i64.wrap (start + r'))).fdiv 2))).bind fun row648 =>
             ((v[(IntKind.i64.wrap ((IntKind.u64.wrap (IntKind.i64.wrap (start + r'))).fdiv 2)).toNat]?).bind fun row649 =>
              ((cInt IntKind.i64 row649 0).bind fun n650 =>
               ((cInt IntKind.i64 row649 1).bind fun n651 =>
                ((cStr row649 2).bind fun s652 =>
                 ((cStr row649 3).bind fun s653 =>
                  ((cRo 5 row649 4).bind fun rows654 =>
                   ((M.impl_SortFuncs_c1 n643 n644 s645 s646 rows647 n650 n651 s652 s653 rows654).bind fun r655 =>
                    (bif !decide (r655 < 0) then
                     (kn ((IntKind.i64.wrap (IntKind.i64.wrap ((IntKind.u64.wrap (IntKind.i64.wrap (start + r'))).fdiv 2) + 1), r'))) else
                     (kn ((start, IntKind.i64.wrap ((IntKind.u64.wrap (IntKind.i64.wrap (start + r'))).fdiv 2)))))))))))))))))))) else (ke ((start, r')))
def M.slices_symMergeCmpFunc_l33_b (rec_slices_symMergeCmpFunc : Int → Int → Int → List Row → Option (List Row)) (a : Int) (m : Int) (b : Int) (mid : Int) (n' : Int) (p : Int) (v : List Row) (s : Int × Int) := M.slices_symMergeCmpFunc_l33_C rec_slices_symMergeCmpFunc a m b mid n' p v s (fun s => some (Sum.inl s)) fun t => some (Sum.inr t)
def M.slices_symMergeCmpFunc_l33 (rec_slices_symMergeCmpFunc : Int → Int → Int → List Row → Option (List Row)) (a : Int) (m : Int) (b : Int) (mid : Int) (n' : Int) (p : Int) (v : List Row) (s : Int × Int) : Option (Int × Int) := loopM (M.slices_symMergeCmpFunc_l33_b rec_slices_symMergeCmpFunc a m b mid n' p v) s
def F.slices_symMergeCmpFunc_l33 {rec_slices_symMergeCmpFunc : Int → Int → Int → List Row → Option (List Row)} (h_slices_symMergeCmpFunc : S.slices_symMergeCmpFunc.ok X0 fun x => rec_slices_symMergeCmpFunc x.1.2.1 x.1.2.2.1 x.1.2.2.2.1 x.2.1) : LE X0 48 := le 33 (pSt [pAt 0 (pO 100000 0), pAt 1 pI, pAt 2 pI, pAt 3 pI, pAt 4 (pClo 20 [] []), pAt 18 pI, pAt 19 pI, pAt 20 pI, pAt 21 pI, pAt 22 pI] [pAt 100000 (cA false false 0 5)]) (fun x => (x.1.2.2.2.2.2.2.2.1, x.1.2.2.2.2.2.2.2.2.1)) (fun x s => (((), x.1.2.1, x.1.2.2.1, x.1.2.2.2.1, ((), ()), x.1.2.2.2.2.2.1, x.1.2.2.2.2.2.2.1, s.1, s.2, x.1.2.2.2.2.2.2.2.2.2.1, ()), (x.2.1, ()))) (fun x => .leaf (Int × Int) (fun t => (Ex.exit 8, { tm := [(0, V.own 100000 0), (1, V.d (D.int IntKind.i64 x.1.2.1)), (2, V.d (D.int IntKind.i64 x.1.2.2.1)), (3, V.d (D.int IntKind.i64 x.1.2.2.2.1)), (4, V.clo 20 [] []), (18, V.d (D.int IntKind.i64 x.1.2.2.2.2.2.1)), (19, V.d (D.int IntKind.i64 x.1.2.2.2.2.2.2.1)), (20, V.d (D.int IntKind.i64 t.fst)), (21, V.d (D.int IntKind.i64 t.snd)), (22, V.d (D.int IntKind.i64 x.1.2.2.2.2.2.2.2.2.2.1)), (151, V.d (D.bool false))], mem := [(100000, Cell.arr false false 0 5 x.2.1)] }))) (fun x => M.slices_symMergeCmpFunc_l33_C rec_slices_symMergeCmpFunc x.1.2.1 x.1.2.2.1 x.1.2.2.2.1 x.1.2.2.2.2.2.1 x.1.2.2.2.2.2.2.1 x.1.2.2.2.2.2.2.2.2.2.1 x.2.1) [fe C.impl_SortFuncs_c1] [] (by rintro _ _ ⟨_, _⟩ _ _ <;> simp only [M.slices_symMergeCmpFunc_l33_C, nb] <;> rfl)
def M.slices_symMergeCmpFunc_C {R : Type} (rec_slices_symMergeCmpFunc : Int → Int → Int → List Row → Option (List Row)) (a : Int) (m : Int) (b : Int) (c : List Row) (k : List Row → Option R) : Option R :=
  bif IntKind.i64.wrap (m - a) == 1 then
   ((M.slices_symMergeCmpFunc_l3 rec_slices_symMergeCmpFunc a c ((m, b))).bind fun t586 => ((M.slices_symMergeCmpFunc_l9 rec_slices_symMergeCmpFunc t586.fst ((a, c))).bind fun t605 => (k t605.snd))) else
   (bif IntKind.i64.wrap (b - m) == 1 then
    ((M.slices_symMergeCmpFunc_l15 rec_slices_symMergeCmpFunc m c ((a, m))).bind fun t621 => ((M.slices_symMergeCmpFunc_l21 rec_slices_symMergeCmpFunc t621.fst ((m, c))).bind fun t640 => (k t640.snd))) else
    (bif decide (m > IntKind.i64.wrap ((IntKind.u64.wrap (IntKind.i64.wrap (a + b))).fdiv 2)) then
     ((M.slices_symMergeCmpFunc_l33 rec_slices_symMergeCmpFunc a m b (IntKind.i64.wrap ((IntKind.u64.wrap (IntKind.i64.wrap (a + b))).fdiv 2)) (IntKind.i64.wrap (IntKind.i64.wrap ((IntKind.u64.wrap (IntKind.i64.wrap (a + b))).fdiv 2) + m)) (IntKind.i64.wrap (IntKind.i64.wrap (IntKind.i64.wrap ((IntKind.u64.wrap (IntKind.i64.wrap (a + b))).fdiv 2) + m) - 1)) c ((IntKind.i64.wrap (IntKind.i64.wrap (IntKind.i64.wrap ((IntKind.u64.wrap (IntKind.i64.wrap (a + b))).fdiv 2) + m) - b), IntKind.i64.wrap ((IntKind.u64.wrap (IntKind.i64.wrap (a + b))).fdiv 2)))).bind fun t656 =>
      (bif decide (t656.fst < m) then
       (bif decide (m < IntKind.i64.wrap (IntKind.i64.wrap (IntKind.i64.wrap ((IntKind.u64.wrap (IntKind.i64.wrap (a + b))).fdiv 2) + m) - t656.fst)) then
        ((M.slices_rotateCmpFunc t656.fst m (IntKind.i64.wrap (IntKind.i64.wrap (IntKind.i64.wrap ((IntKind.u64.wrap (IntKind.i64.wrap (a + b))).fdiv 2) + m) - t656.fst)) c).bind fun r680 =>
         (bif decide (a < t656.fst) then
          (bif decide (t656.fst < IntKind.i64.wrap ((IntKind.u64.wrap (IntKind.i64.wrap (a + b))).fdiv 2)) then
           ((rec_slices_symMergeCmpFunc a t656.fst (IntKind.i64.wrap ((IntKind.u64.wrap (IntKind.i64.wrap (a + b))).fdiv 2)) r680).bind fun r681 =>
            (bif decide (IntKind.i64.wrap ((IntKind.u64.wrap (IntKind.i64.wrap (a + b))).fdiv 2) < IntKind.i64.wrap (IntKind.i64.wrap (IntKind.i64.wrap ((IntKind.u64.wrap (IntKind.i64.wrap (a + b))).fdiv 2) + m) - t656.fst)) then
             (bif decide (IntKind.i64.wrap (IntKind.i64.wrap (IntKind.i64.wrap ((IntKind.u64.wrap (IntKind.i64.wrap (a + b))).fdiv 2) + m) - t656.fst) < b) then
              ((rec_slices_symMergeCmpFunc (IntKind.i64.wrap ((IntKind.u64.wrap (IntKind.i64.wrap (a + b))).fdiv 2)) (IntKind.i64.wrap (IntKind.i64.wrap (IntKind.i64.wrap ((IntKind.u64.wrap (IntKind.i64.wrap (a + b))).fdiv 2) + m) - t656.fst)) b r681).bind fun r682 => (k r682)) else (k r681)) else (k r681))) else
           (bif decide (IntKind.i64.wrap ((IntKind.u64.wrap (IntKind.i64.wrap (a + b))).fdiv 2) < IntKind.i64.wrap (IntKind.i64.wrap (IntKind.i64.wrap ((IntKind.u64.wrap (IntKind.i64.wrap (a + b))).fdiv 2) + m) - t656.fst)) then
            (bif decide (IntKind.i64.wrap (IntKind.i64.wrap (IntKind.i64.wrap ((IntKind.u64.wrap (IntKind.i64.wrap (a + b))).fdiv 2) + m) - t656.fst) < b) then
             ((rec_slices_symMergeCmpFunc (IntKind.i64.wrap ((IntKind.u64.wrap (IntKind.i64.wrap (a + b))).fdiv 2)) (IntKind.i64.wrap (IntKind.i64.wrap (IntKind.i64.wrap ((IntKind.u64.wrap (IntKind.i64.wrap (a + b))).fdiv 2) + m) - t656.fst)) b r680).bind fun r683 => (k r683)) else (k r680)) else (k r680))) else
          (bif decide (IntKind.i64.wrap ((IntKind.u64.wrap (IntKind.i64.wrap (a + b))).fdiv 2) < IntKind.i64.wrap (IntKind.i64.wrap (IntKind.i64.wrap ((IntKind.u64.wrap (IntKind.i64.wrap (a + b))).fdiv 2) + m) - t656.fst)) then
           (bif decide (IntKind.i64.wrap (IntKind.i64.wrap (IntKind.i64.wrap ((IntKind.u64.wrap (IntKind.i64.wrap (a + b))).fdiv 2) + m) - t656.fst) < b) then
            ((rec_slices_symMergeCmpFunc (IntKind.i64.wrap ((IntKind.u64.wrap (IntKind.i64.wrap (a + b))).fdiv 2)) (IntKind.i64.wrap (IntKind.i64.wrap (IntKind.i64.wrap ((IntKind.u64.wrap (IntKind.i64.wrap (a + b))).fdiv 2) + m) - t656.fst)) b r680).bind fun r684 => (k r684)) else (k r680)) else (k r680)))) else
        (bif decide (a < t656.fst) then
         (bif decide (t656.fst < IntKind.i64.wrap ((IntKind.u64.wrap (IntKind.i64.wrap (a + b))).fdiv 2)) then
          ((rec_slices_symMergeCmpFunc a t656.fst (IntKind.i64.wrap ((IntKind.u64.wrap (IntKind.i64.wrap (a + b))).fdiv 2)) c).bind fun r685 =>
           (bif decide (IntKind.i64.wrap ((IntKind.u64.wrap (IntKind.i64.wrap (a + b))).fdiv 2) < IntKind.i64.wrap (IntKind.i64.wrap (IntKind.i64.wrap ((IntKind.u64.wrap (IntKind.i64.wrap (a + b))).fdiv 2) + m) - t656.fst)) then
            (bif decide (IntKind.i64.wrap (IntKind.i64.wrap (IntKind.i64.wrap ((IntKind.u64.wrap (IntKind.i64.wrap (a + b))).fdiv 2) + m) - t656.fst) < b) then
             ((rec_slices_symMergeCmpFunc (IntKind.i64.wrap ((IntKind.u64.wrap (IntKind.i64.wrap (a + b))).fdiv 2)) (IntKind.i64.wrap (IntKind.i64.wrap (IntKind.i64.wrap ((IntKind.u64.wrap (IntKind.i64.wrap (a + b))).fdiv 2) + m) - t656.fst)) b r685).bind fun r686 => (k r686)) else (k r685)) else (k r685))) else
          (bif decide (IntKind.i64.wrap ((IntKind.u64.wrap (IntKind.i64.wrap (a + b))).fdiv 2) < IntKind.i64.wrap (IntKind.i64.wrap (IntKind.i64.wrap ((IntKind.u64.wrap (IntKind.i64.wrap (a + b))).fdiv 2) + m) - t656.fst)) then
           (bif decide (IntKind.i64.wrap (IntKind.i64.wrap (IntKind.i64.wrap ((IntKind.u64.wrap (IntKind.i64.wrap (a + b))).fdiv 2) + m) - t656.fst) < b) then
            ((rec_slices_symMergeCmpFunc (IntKind.i64.wrap ((IntKind.u64.wrap (IntKind.i64.wrap (a + b))).fdiv 2)) (IntKind.i64.wrap (IntKind.i64.wrap (IntKind.i64.wrap ((IntKind.u64.wrap (IntKind.i64.wrap (a + b))).fdiv 2) + m) - t656.fst)) b c).bind fun r687 => (k r687)) else (k c)) else (k c))) else
         (bif decide (IntKind.i64.wrap ((IntKind.u64.wrap (IntKind.i64.wrap (a + b))).fdiv 2) < IntKind.i64.wrap (IntKind.i64.wrap (IntKind.i64.wrap ((IntKind.u64.wrap (IntKind.i64.wrap (a + b))).fdiv 2) + m) - t656.fst)) then
          (bif decide (IntKind.i64.wrap (IntKind.i64.wrap (IntKind.i64.wrap ((IntKind.u64.wrap (IntKind.i64.wrap (a + b))).fdiv 2) + m) - t656.fst) < b) then
           ((rec_slices_symMergeCmpFunc (IntKind.i64.wrap ((IntKind.u64.wrap (IntKind.i64.wrap (a + b))).fdiv 2)) (IntKind.i64.wrap (IntKind.i64.wrap (IntKind.i64.wrap ((IntKind.u64.wrap (IntKind.i64.wrap (a + b))).fdiv 2) + m) - t656.fst)) b c).bind fun r688 => (k r688)) else (k c)) else (k c)))) else
       (bif decide (a < t656.fst) then
        (bif decide (t656.fst < IntKind.i64.wrap ((IntKind.u64.wrap (IntKind.i64.wrap (a + b))).fdiv 2)) then
         ((rec_slices_symMergeCmpFunc a t656.fst (IntKind.i64.wrap ((IntKind.u64.wrap (IntKind.i64.wrap (a + b))).fdiv 2)) c).bind fun r689 =>
          (bif decide (IntKind.i64.wrap ((IntKind.u64.wrap (IntKind.i64.wrap (a + b))).fdiv 2) < IntKind.i64.wrap (IntKind.i64.wrap (IntKind.i64.wrap ((IntKind.u64.wrap (IntKind.i64.wrap (a + b))).fdiv 2) + m) - t656.fst)) then
           (bif decide (IntKind.i64.wrap (IntKind.i64.wrap (IntKind.i64.wrap ((IntKind.u64.wrap (IntKind.i64.wrap (a + b))).fdiv 2) + m) - t656.fst) < b) then
            ((rec_slices_symMergeCmpFunc (IntKind.i64.wrap ((IntKind.u64.wrap (IntKind.i64.wrap (a + b))).fdiv 2)) (IntKind.i64.wrap (IntKind.i64.wrap (IntKind.i64.wrap ((IntKind.u64.wrap (IntKind.i64.wrap (a + b))).fdiv 2) + m) - t656.fst)) b r689).bind fun r690 => (k r690)) else (k r689)) else (k r689))) else
         (bif decide (IntKind.i64.wrap ((IntKind.u64.wrap (IntKind.i64.wrap (a + b))).fdiv 2) < IntKind.i64.wrap (IntKind.i64.wrap (IntKind.i64.wrap ((IntKind.u64.wrap (IntKind.i64.wrap (a + b))).fdiv 2) + m) - t656.fst)) then
          (bif decide (IntKind.i64.wrap (IntKind.i64.wrap (IntKind.i64.wrap ((IntKind.u64.wrap (IntKind.i64.wrap (a + b))).fdiv 2) + m) - t656.fst) < b) then
           ((rec_slices_symMergeCmpFunc (IntKind.i64.wrap ((IntKind.u64.wrap (IntKind.i64.wrap (a + b))).fdiv 2)) (IntKind.i64.wrap (IntKind.i64.wrap (IntKind.i64.wrap ((IntKind.u64.wrap (IntKind.i64.wrap (a + b))).fdiv 2) + m) - t656.fst)) b c).bind fun r691 => (k r691)) else (k c)) else (k c))) else
        (bif decide (IntKind.i64.wrap ((IntKind.u64.wrap (IntKind.i64.wrap (a + b))).fdiv 2) < IntKind.i64.wrap (IntKind.i64.wrap (IntKind.i64.wrap ((IntKind.u64.wrap (IntKind.i64.wrap (a + b))).fdiv 2) + m) - t656.fst)) then
         (bif decide (IntKind.i64.wrap (IntKind.i64.wrap (IntKind.i64.wrap ((IntKind.u64.wrap (IntKind.i64.wrap (a + b))).fdiv 2) + m) - t656.fst) < b) then
          ((rec_slices_symMergeCmpFunc (IntKind.i64.wrap ((IntKind.u64.wrap (IntKind.i64.wrap (a + b))).fdiv 2)) (IntKind.i64.wrap (IntKind.i64.wrap (IntKind.i64.wrap ((IntKind.u64.wrap (IntKind.i64.wrap (a + b))).fdiv 2) + m) - t656.fst)) b c).bind fun r692 => (k r692)) else (k c)) else (k c))))) else
     ((M.slices_symMergeCmpFunc_l33 rec_slices_symMergeCmpFunc a m b (IntKind.i64.wrap ((IntKind.u64.wrap (IntKind.i64.wrap (a + b))).fdiv 2)) (IntKind.i64.wrap (IntKind.i64.wrap ((IntKind.u64.wrap (IntKind.i64.wrap (a + b))).fdiv 2) + m)) (IntKind.i64.wrap (IntKind.i64.wrap (IntKind.i64.wrap ((IntKind.u64.wrap (IntKind.i64.wrap (a + b))).fdiv 2) + m) - 1)) c ((a, m))).bind fun t693 =>
      (bif decide (t693.fst < m) then
       (bif decide (m < IntKind.i64.wrap (IntKind.i64.wrap (IntKind.i64.wrap ((IntKind.u64.wrap (IntKind.i64.wrap (a + b))).fdiv 2) + m) - t693.fst)) then
        ((M.slices_rotateCmpFunc t693.fst m (IntKind.i64.wrap (IntKind.i64.wrap (IntKind.i64.wrap ((IntKind.u64.wrap (IntKind.i64.wrap (a + b))).fdiv 2) + m) - t693.fst)) c).bind fun r694 =>
         (bif decide (a < t693.fst) then
          (bif decide (t693.fst < IntKind.i64.wrap ((IntKind.u64.wrap (IntKind.i64.wrap (a + b))).fdiv 2)) then
           ((rec_slices_symMergeCmpFunc a t693.fst (IntKind.i64.wrap ((IntKind.u64.wrap (IntKind.i64.wrap (a + b))).fdiv 2)) r694).bind fun r695 =>
            (bif decide (IntKind.i64.wrap ((IntKind.u64.wrap (IntKind.i64.wrap (a + b))).fdiv 2) < IntKind.i64.wrap (IntKind.i64.wrap (IntKind.i64.wrap ((IntKind.u64.wrap (IntKind.i64.wrap (a + b))).fdiv 2) + m) - t693.fst)) then
             (bif decide (IntKind.i64.wrap (IntKind.i64.wrap (IntKind.i64.wrap ((IntKind.u64.wrap (IntKind.i64.wrap (a + b))).fdiv 2) + m) - t693.fst) < b) then
              ((rec_slices_symMergeCmpFunc (IntKind.i64.wrap ((IntKind.u64.wrap (IntKind.i64.wrap (a + b))).fdiv 2)) (IntKind.i64.wrap (IntKind.i64.wrap (IntKind.i64.wrap ((IntKind.u64.wrap (IntKind.i64.wrap (a + b))).fdiv 2) + m) - t693.fst)) b r695).bind fun r696 => (k r696)) else (k r695)) else (k r695))) else
           (bif decide (IntKind.i64.wrap ((IntKind.u64.wrap (IntKind.i64.wrap (a + b))).fdiv 2) < IntKind.i64.wrap (IntKind.i64.wrap (IntKind.i64.wrap ((IntKind.u64.wrap (IntKind.i64.wrap (a + b))).fdiv 2) + m) - t693.fst)) then
            (bif decide (IntKind.i64.wrap (IntKind.i64.wrap (IntKind.i64.wrap ((IntKind.u64.wrap (IntKind.i64.wrap (a + b))).fdiv 2) + m) - t693.fst) < b) then
             ((rec_slices_symMergeCmpFunc (IntKind.i64.wrap ((IntKind.u64.wrap (IntKind.i64.wrap (a + b))).fdiv 2)) (IntKind.i64.wrap (IntKind.i64.wrap (IntKind.i64.wrap ((IntKind.u64.wrap (IntKind.i64.wrap (a + b))).fdiv 2) + m) - t693.fst)) b r694).bind fun r697 => (k r697)) else (k r694)) else (k r694))) else
          (bif decide (IntKind.i64.wrap ((IntKind.u64.wrap (IntKind.i64.wrap (a + b))).fdiv 2) < IntKind.i64.wrap (IntKind.i64.wrap (IntKind.i64.wrap ((IntKind.u64.wrap (IntKind.i64.wrap (a + b))).fdiv 2) + m) - t693.fst)) then
           (bif decide (IntKind.i64.wrap (IntKind.i64.wrap (IntKind.i64.wrap ((IntKind.u64.wrap (IntKind.i64.wrap (a + b))).fdiv 2) + m) - t693.fst) < b) then
            ((rec_slices_symMergeCmpFunc (IntKind.i64.wrap ((IntKind.u64.wrap (IntKind.i64.wrap (a + b))).fdiv 2)) (IntKind.i64.wrap (IntKind.i64.wrap (IntKind.i64.wrap ((IntKind.u64.wrap (IntKind.i64.wrap (a + b))).fdiv 2) + m) - t693.fst)) b r694).bind fun r698 => (k r698)) else (k r694)) else (k r694)))) else
        (bif decide (a < t693.fst) then
         (bif decide (t693.fst < IntKind.i64.wrap ((IntKind.u64.wrap (IntKind.i64.wrap (a + b))).fdiv 2)) then
          ((rec_slices_symMergeCmpFunc a t693.fst (IntKind.i64.wrap ((IntKind.u64.wrap (IntKind.i64.wrap (a + b))).fdiv 2)) c).bind fun r699 =>
           (bif decide (IntKind.i64.wrap ((IntKind.u64.wrap (IntKind.i64.wrap (a + b))).fdiv 2) < IntKind.i64.wrap (IntKind.i64.wrap (IntKind.i64.wrap ((IntKind.u64.wrap (IntKind.i64.wrap (a + b))).fdiv 2) + m) - t693.fst)) then
            (bif decide (IntKind.i64.wrap (IntKind.i64.wrap (IntKind.i64.wrap ((IntKind.u64.wrap (IntKind.i64.wrap (a + b))).fdiv 2) + m) - t693.fst) < b) then
             ((rec_slices_symMergeCmpFunc (IntKind.i64.wrap ((IntKind.u64.wrap (IntKind.i64.wrap (a + b))).fdiv 2)) (IntKind.i64.wrap (IntKind.i64.wrap (IntKind.i64.wrap ((IntKind.u64.wrap (IntKind.i64.wrap (a + b))).fdiv 2) + m) - t693.fst)) b r699).bind fun r700 => (k r700)) else (k r699)) else (k r699))) else
          (bif decide (IntKind.i64.wrap ((IntKind.u64.wrap (IntKind.i64.wrap (a + b))).fdiv 2) < IntKind.i64.wrap (IntKind.i64.wrap (IntKind.i64.wrap ((IntKind.u64.wrap (IntKind.i64.wrap (a + b))).fdiv 2) + m) - t693.fst)) then
           (bif decide (IntKind.i64.wrap (IntKind.i64.wrap (IntKind.i64.wrap ((IntKind.u64.wrap (IntKind.i64.wrap (a + b))).fdiv 2) + m) - t693.fst) < b) then
            ((rec_slices_symMergeCmpFunc (IntKind.i64.wrap ((IntKind.u64.wrap (IntKind.i64.wrap (a + b))).fdiv 2)) (IntKind.i64.wrap (IntKind.i64.wrap (IntKind.i64.wrap ((IntKind.u64.wrap (IntKind.i64.wrap (a + b))).fdiv 2) + m) - t693.fst)) b c).bind fun r701 => (k r701)) else (k c)) else (k c))) else
         (bif decide (IntKind.i64.wrap ((IntKind.u64.wrap (IntKind.i64.wrap (a + b))).fdiv 2) < IntKind.i64.wrap (IntKind.i64.wrap (IntKind.i64.wrap ((IntKind.u64.wrap (IntKind.i64.wrap (a + b))).fdiv 2) + m) - t693.fst)) then
          (bif decide (IntKind.i64.wrap (IntKind.i64.wrap (IntKind.i64.wrap ((IntKind.u64.wrap (IntKind.i64.wrap (a + b))).fdiv 2) + m) - t693.fst) < b) then
           ((rec_slices_symMergeCmpFunc (IntKind.i64.wrap ((IntKind.u64.wrap (IntKind.i64.wrap (a + b))).fdiv 2)) (IntKind.i64.wrap (IntKind.i64.wrap (IntKind.i64.wrap ((IntKind.u64.wrap (IntKind.i64.wrap (a + b))).fdiv 2) + m) - t693.fst)) b c).bind fun r702 => (k r702)) else (k c)) else (k c)))) else
       (bif decide (a < t693.fst) then
        (bif decide (t693.fst < IntKind.i64.wrap ((IntKind.u64.wrap (IntKind.i64.wrap (a + b))).fdiv 2)) then
         ((rec_slices_symMergeCmpFunc a t693.fst (IntKind.i64.wrap ((IntKind.u64.wrap (IntKind.i64.wrap (a + b))).fdiv 2)) c).bind fun r703 =>
          (bif decide (IntKind.i64.wrap ((IntKind.u64.wrap (IntKind.i64.wrap (a + b))).fdiv 2) < IntKind.i64.wrap (IntKind.i64.wrap (IntKind.i64.wrap ((IntKind.u64.wrap (IntKind.i64.wrap (a + b))).fdiv 2) + m) - t693.fst)) then
           (bif decide (IntKind.i64.wrap (IntKind.i64.wrap (IntKind.i64.wrap ((IntKind.u64.wrap (IntKind.i64.wrap (a + b))).fdiv 2) + m) - t693.fst) < b) then
            ((rec_slices_symMergeCmpFunc (IntKind.i64.wrap ((IntKind.u64.wrap (IntKind.i64.wrap (a + b))).fdiv 2)) (IntKind.i64.wrap (IntKind.i64.wrap (IntKind.i64.wrap ((IntKind.u64.wrap (IntKind.i64.wrap (a + b))).fdiv 2) + m) - t693.fst)) b r703).bind fun r704 => (k r704)) else (k r703)) else (k r703))) else
         (bif decide (IntKind.i64.wrap ((IntKind.u64.wrap (IntKind.i64.wrap (a + b))).fdiv 2) < IntKind.i64.wrap (IntKind.i64.wrap (IntKind.i64.wrap ((IntKind.u64.wrap (IntKind.i64.wrap (a + b))).fdiv 2) + m) - t693.fst)) then
          (bif decide (IntKind.i64.wrap (IntKind.i64.wrap (IntKind.i64.wrap ((IntKind.u64.wrap (IntKind.i64.wrap (a + b))).fdiv 2) + m) - t693.fst) < b) then
           ((rec_slices_symMergeCmpFunc (IntKind.i64.wrap ((IntKind.u64.wrap (IntKind.i64.wrap (a + b))).fdiv 2)) (IntKind.i64.wrap (IntKind.i64.wrap (IntKind.i64.wrap ((IntKind.u64.wrap (IntKind.i64.wrap (a + b))).fdiv 2) + m) - t693.fst)) b c).bind fun r705 => (k r705)) else (k c)) else (k c))) else
        (bif decide (IntKind.i64.wrap ((IntKind.u64.wrap (IntKind.i64.wrap (a + b))).fdiv 2) < IntKind.i64.wrap (IntKind.i64.wrap (IntKind.i64.wrap ((IntKind.u64.wrap (IntKind.i64.wrap (a + b))).fdiv 2) + m) - t693.fst)) then
         (bif decide (IntKind.i64.wrap (IntKind.i64.wrap (IntKind.i64.wrap ((IntKind.u64.wrap (IntKind.i64.wrap (a + b))).fdiv 2) + m) - t693.fst) < b) then
          ((rec_slices_symMergeCmpFunc (IntKind.i64.wrap ((IntKind.u64.wrap (IntKind.i64.wrap (a + b))).fdiv 2)) (IntKind.i64.wrap (IntKind.i64.wrap (IntKind.i64.wrap ((IntKind.u64.wrap (IntKind.i64.wrap (a + b))).fdiv 2) + m) - t693.fst)) b c).bind fun r706 => (k r706)) else (k c)) else (k c)))))))
def M.slices_symMergeCmpFunc_N : Nat → Int → Int → Int → List Row → Option (List Row)
  | 0 => fun _ _ _ _ => none
  | n + 1 => fun a m b c => M.slices_symMergeCmpFunc_C (M.slices_symMergeCmpFunc_N n) a m b c some
def M.slices_symMergeCmpFunc (a : Int) (m : Int) (b : Int) (c : List Row) : Option (List Row) := lim fun n => M.slices_symMergeCmpFunc_N n a m b c
theorem C.slices_symMergeCmpFunc_r1 {rec_slices_symMergeCmpFunc : Int → Int → Int → List Row → Option (List Row)} (h_slices_symMergeCmpFunc : S.slices_symMergeCmpFunc.ok X0 fun x => rec_slices_symMergeCmpFunc x.1.2.1 x.1.2.2.1 x.1.2.2.2.1 x.2.1) : S.slices_symMergeCmpFunc.ok X0 fun x => M.slices_symMergeCmpFunc_C rec_slices_symMergeCmpFunc x.1.2.1 x.1.2.2.1 x.1.2.2.2.1 x.2.1 some := fnS (fun x => M.slices_symMergeCmpFunc_C rec_slices_symMergeCmpFunc x.1.2.1 x.1.2.2.1 x.1.2.2.2.1 x.2.1) [fe C.slices_rotateCmpFunc, fe h_slices_symMergeCmpFunc] [F.slices_symMergeCmpFunc_l3 h_slices_symMergeCmpFunc, F.slices_symMergeCmpFunc_l9 h_slices_symMergeCmpFunc, F.slices_symMergeCmpFunc_l15 h_slices_symMergeCmpFunc, F.slices_symMergeCmpFunc_l21 h_slices_symMergeCmpFunc, F.slices_symMergeCmpFunc_l33 h_slices_symMergeCmpFunc] (by intros; unfold M.slices_symMergeCmpFunc_C; repeat' first | with_reducible apply nbif | with_reducible apply nbb | with_reducible apply nbo | with_reducible apply nbs | with_reducible apply nbl | (intro _) | apply nbif | rfl)
theorem C.slices_symMergeCmpFunc_N : ∀ n, S.slices_symMergeCmpFunc.ok X0 fun x => M.slices_symMergeCmpFunc_N n x.1.2.1 x.1.2.2.1 x.1.2.2.2.1 x.2.1
  | 0 => Sig.zero
  | n + 1 => C.slices_symMergeCmpFunc_r1 (C.slices_symMergeCmpFunc_N n)
theorem C.slices_symMergeCmpFunc : S.slices_symMergeCmpFunc.ok X0 fun x => M.slices_symMergeCmpFunc x.1.2.1 x.1.2.2.1 x.1.2.2.2.1 x.2.1 := Sig.lim C.slices_symMergeCmpFunc_N
theorem M.slices_symMergeCmpFunc_of {n : Nat} {a : Int} {m : Int} {b : Int} {c : List Row} {r : List Row} (h : M.slices_symMergeCmpFunc_N n a m b c = some r) : M.slices_symMergeCmpFunc a m b c = some r :=
  Sig.lim_of C.slices_symMergeCmpFunc_N (by intro a b h; simp [S.slices_symMergeCmpFunc, sg] at h; first | exact h | simp [Prod.ext_iff, h]) (x := (((), a, m, b, ((), ()), ()), (c, ()))) h
end
end Go.Proofs.YtpcdaeebbpedoaaGreatDoor
