import Derived.Test.YtghbceiigeialaaVm4
import Derived.Test.YtghbceiigeialaaProg
import Derived.Test.YtghbceiigeialaaPPrim
namespace Go.Proofs.Ytghbceiigeialaa
open Go Go.Vm
set_option linter.unusedVariables false
set_option linter.unusedSimpArgs false
noncomputable section
def kp3 : List (List Nat) := [[0], [0, 14], [2], [0, 3, 4], [0, 3, 4, 5], [0, 3, 4, 5, 35], [2], [0, 3, 4, 5, 6], [0, 3, 6, 68], [2], [0, 3, 6, 7], [0, 3, 6, 7, 72], [0, 3, 6, 7], [0, 3, 6, 7, 78], [2], [8, 9], [8, 9, 10], [8, 9, 10, 11], [8, 9, 10, 11, 12], [8, 9, 10, 11, 12, 98], [2], [2]]
def kp4 : List (List Nat) := [[0], [2]]
def kp5 : List (List Nat) := [[0], [2, 3]]
def kp6 : List (List Nat) := [[0, 1], [0, 1, 17], [4], [5], [4]]
def kp7 : List (List Nat) := [[0], [0, 8], [2], [0, 3, 4], [2]]
def kp8 : List (List Nat) := [[0], [0, 5], [2], [2]]
def kp9 : List (List Nat) := [[0, 1], [0, 1, 10], [4], [0, 1, 5], [0, 5, 14, 15, 16], [0, 5, 14, 15, 16, 17], [0, 5, 7, 14, 15, 16], [0, 5, 7, 14, 15, 16, 29], [4], [0, 5, 14, 15, 16], [0, 5, 14, 15, 16], [4]]
def kp10 : List (List Nat) := [[0], [0, 9], [2], [0, 3], [0, 3, 4], [0, 3, 4, 14], [0, 3, 4], [0, 3, 4, 5], [0, 3, 4, 5, 6], [0, 3, 4, 5, 6, 24], [0, 3, 4, 5, 6], [0, 3, 4, 5, 6], [0, 3, 4], [2]]
def kp11 : List (List Nat) := [[0, 1], [0, 1, 5], [0, 1, 5, 9], [0, 1, 5], [0, 1, 5, 17], [4], [4]]
def kp12 : List (List Nat) := [[0], [4], [4, 5], [4, 5, 6], [4, 5, 6, 21], [4, 5, 6, 7], [4, 5, 6], [4, 5, 6, 37], [5, 6], [2, 3]]
def kp13 : List (List Nat) := [[0, 1], [0, 1, 17], [4], [0, 1, 5, 6], [0, 1, 5, 6, 26, 27], [0, 1, 5, 6, 26, 27, 28], [0, 1, 5, 6, 7, 26, 27], [0, 1, 5, 6, 7, 8, 9, 26, 27], [0, 1, 5, 6, 7, 26, 27, 78], [4], [0, 1, 5, 6, 26, 27], [4]]
def kp14 : List (List Nat) := [[0, 1], [0, 1, 9], [4], [0, 1, 5], [0, 1, 5, 6], [0, 1, 5, 6, 16], [0, 1, 5, 6], [0, 1, 5, 6, 31], [4], [0, 1, 5, 6], [4]]
def kp15 : List (List Nat) := [[0, 1], [0, 1, 10], [4], [0, 1, 5], [0, 1, 5, 14], [0, 1, 5], [0, 1, 5, 80], [4], [4]]
def kp16 : List (List Nat) := [[0, 1], [0, 1, 15], [4], [4]]
def kp17 : List (List Nat) := [[0, 1], [0, 1, 10], [4], [0, 1, 5], [0, 1, 5, 14], [0, 1, 5], [0, 1, 5, 25], [4], [4]]
def kp18 : List (List Nat) := [[0, 1], [0, 1, 14], [4], [5], [4]]
def kp19 : List (List Nat) := [[0], [0, 4], [2, 3]]
def kp20 : List (List Nat) := [[0], [0, 3], [0, 3, 4], [0, 3, 4, 15], [0, 3, 4], [0, 3, 4], [2]]
def kp21 : List (List Nat) := [[0], [4], [2]]
def kp22 : List (List Nat) := [[0, 1, 2], [6]]
def kp23 : List (List Nat) := [[0, 1, 2], [0, 1, 2, 14], [6, 7], [0, 2, 20, 21, 22], [0, 2, 20, 21, 22, 23], [0, 2, 8, 9, 20, 21, 22], [0, 2, 8, 10, 11, 20, 21, 22], [0, 2, 8, 10, 20, 21, 22, 34], [6, 7], [0, 2, 20, 21, 22], [6, 7]]
def kp24 : List (List Nat) := [[0, 1, 2], [6]]
def kp25 : List (List Nat) := [[0], [0, 4], [0, 4, 5], [0, 4, 5, 12], [0, 4, 5], [0, 4, 5, 6], [0, 4, 5, 6, 7], [0, 4, 5, 6, 7, 24], [0, 4, 5, 6, 7], [0, 4, 5, 6, 7, 41], [2, 3], [0, 4, 5, 6, 7], [0, 4, 5], [2, 3]]
def kp26 : List (List Nat) := [[0, 1, 2], [0, 1, 2], [0, 2, 17, 18, 19], [0, 2, 17, 18, 19, 20], [0, 2, 8, 17, 18, 19], [0, 2, 17, 18, 19], [0, 2, 17, 18, 19], [6]]
def kp27 : List (List Nat) := [[0], [0, 3], [0, 3, 4], [0, 3, 4, 12], [0, 3, 4, 12, 13], [2], [0, 3, 4, 12, 18], [3], [0, 3, 4, 12, 35], [0, 3, 4, 43], [3], [3, 55], [2], [2]]
def kp28 : List (List Nat) := [[0], [2]]
def kp29 : List (List Nat) := [[0, 1], [4]]
def kp30 : List (List Nat) := [[0, 1], [0, 1, 10], [4], [0, 1, 12], [4], [0, 1, 5], [0, 1, 5, 6], [0, 1, 5, 6, 7], [1, 5, 6, 7, 8], [4]]
def kp31 : List (List Nat) := [[0], [0, 4], [0, 4, 5], [0, 4, 5], [2], [0, 10], [2], [2]]
def kp32 : List (List Nat) := [[0, 1], [0, 1, 10], [4], [0, 1, 5], [0, 1, 5, 14], [0, 1, 5], [0, 1, 5, 25], [4], [4]]
def kp33 : List (List Nat) := [[0, 1], [0, 1, 5], [4]]
def kp34 : List (List Nat) := [[0, 1, 2, 3], [0, 2, 3, 10], [0, 2, 10, 11], [0, 2, 10, 11, 57], [8, 9], [0, 2, 10, 11, 12], [0, 2, 10, 11, 12, 63], [0, 2, 10, 11, 12], [0, 2, 10, 11, 12, 13, 14], [0, 2, 10, 11, 12, 13, 82], [8, 9], [8, 9]]
def kp35 : List (List Nat) := [[0, 2, 3, 9, 30], [0, 2, 3, 9, 13, 30], [2, 3], [0, 2, 3, 4, 9, 30], [0, 2, 3, 4, 9, 17, 18, 19, 30], [0, 2, 3, 4, 9, 17, 18, 19, 20, 30], [0, 2, 3, 4, 5, 6, 9, 17, 18, 19, 30], [0, 2, 3, 4, 5, 6, 7, 9, 17, 18, 19, 30], [0, 2, 3, 4, 5, 7, 9, 17, 18, 19, 28, 30], [0, 2, 3, 4, 5, 7, 9, 17, 18, 19, 28, 30], [0, 2, 3, 4, 5, 7, 9, 17, 18, 19, 28, 30, 37], [2, 3], [0, 2, 3, 4, 5, 7, 9, 17, 18, 19, 28, 30], [0, 2, 3, 4, 9, 17, 18, 19, 30], [0, 2, 3, 4, 9, 17, 18, 19, 30], [2, 3]]
def kp36 : List (List Nat) := [[0, 1], [4]]
def kp37 : List (List Nat) := [[0, 1], [0, 1, 5], [0, 1, 5, 6], [0, 1, 5, 6, 13], [0, 1, 5, 6], [0, 1, 5, 6, 7], [0, 1, 5, 6, 7], [0, 1, 5, 6, 7, 8], [0, 1, 5, 6, 7, 8, 29], [0, 1, 5, 6, 7, 8], [0, 1, 5, 6, 7, 8], [0, 1, 5, 6], [4]]
def kp38 : List (List Nat) := [[0], [0], [0, 3], [0, 3, 34], [0, 3], [3], [2]]
def kp39 : List (List Nat) := [[0], [0, 3], [0, 3, 11], [2]]
def kp40 : List (List Nat) := [[0, 1], [0, 1, 11], [4], [0, 1, 17], [0, 1, 17, 18], [4], [0, 1, 17, 29], [4], [0, 1, 17, 44], [4], [0, 1, 17, 55], [4], [0, 1, 66], [4], [0, 1, 82], [4], [4]]
def kp41 : List (List Nat) := [[0], [0, 3], [0, 3, 4], [0, 3, 4, 10], [0, 3, 4], [0, 3, 4], [0, 5], [0, 5, 23], [2]]
def kp43 : List (List Nat) := [[0, 1], [0, 1, 7], [4], [0, 1, 5], [0, 1, 5, 14], [0, 1, 5, 14, 15], [4], [0, 1, 5, 14, 19], [4], [0, 1, 5, 14, 24], [4], [0, 1, 5, 14, 33], [4], [0, 1, 5, 14, 43], [4], [0, 1, 5, 14, 54], [4], [0, 1, 5, 14, 64], [4], [0, 1, 14, 74], [0, 1, 14, 74], [4], [0, 1, 14, 87], [4], [0, 1, 14, 97], [4], [0, 1, 114], [4], [4]]
def kp44 : List (List Nat) := [[0, 1], [0, 1, 8], [0, 1, 8, 9], [0, 1, 8, 9], [0, 1, 5], [0, 1, 5, 6], [0, 1, 5, 6, 21], [0, 1, 5, 6], [5, 6], [4], [0, 1, 8, 36], [4], [0, 1, 8, 43], [4], [0, 1, 8, 53], [4], [0, 1, 63], [0, 1, 66], [4], [4]]
def kp45 : List (List Nat) := [[1, 2], [1, 2, 5], [1, 2, 5], [1, 2, 5, 6], [1, 2, 5, 6, 13], [1, 2, 5, 6], [1, 2, 5, 6], [1, 2, 5, 6], [4]]
def kp46 : List (List Nat) := [[0, 1], [0, 1, 5], [0, 1, 5, 6], [0, 1, 5, 6, 11], [0, 1, 5, 6], [0, 1, 5, 6], [4]]
def kp47 : List (List Nat) := [[0, 1], [0, 1, 6], [4], [4]]
def kp48 : List (List Nat) := [[0], [2]]
def kp49 : List (List Nat) := [[0], [0, 3], [0, 3, 10], [0, 3, 10, 11], [2], [0, 3, 10, 22], [2], [0, 3, 10, 30], [2], [0, 3, 10, 38], [2], [0, 3, 10, 47], [2], [0, 3, 10, 59], [0, 3, 4], [0, 3, 4, 5], [0, 3, 4, 5, 65], [0, 3, 4, 5], [0, 3, 4, 5], [2], [0, 3, 86], [2], [2]]
def kp51 : List (List Nat) := [[0], [0, 4], [0, 4, 5], [2], [0, 4, 11], [2], [0, 17], [0, 20], [2], [2]]
def kp52 : List (List Nat) := [[0, 1], [0, 1, 6], [0, 1, 6, 7], [4], [0, 1, 18], [4], [4]]
def kp53 : List (List Nat) := [[0, 1, 2, 3], [0, 1, 2, 3, 9], [0, 3, 9, 10], [0, 3, 9, 10, 21], [0, 3, 9, 10], [0, 3, 9, 10], [8]]
def kp54 : List (List Nat) := [[0, 1], [4]]
def kp55 : List (List Nat) := [[0], [2]]
def kp56 : List (List Nat) := [[0], [2]]
def kp57 : List (List Nat) := [[0], [2]]
def kp58 : List (List Nat) := [[0], [2]]
def keepT : List (List (List Nat)) := [[], [], [], kp3, kp4, kp5, kp6, kp7, kp8, kp9, kp10, kp11, kp12, kp13, kp14, kp15, kp16, kp17, kp18, kp19, kp20, kp21, kp22, kp23, kp24, kp25, kp26, kp27, kp28, kp29, kp30, kp31, kp32, kp33, kp34, kp35, kp36, kp37, kp38, kp39, kp40, kp41, [], kp43, kp44, kp45, kp46, kp47, kp48, kp49, [], kp51, kp52, kp53, kp54, kp55, kp56, kp57, kp58, [], [], [], [], [], [], [], [], [], [], [], [], [], [], [], []]
def refT (f : Nat) : List Nat := []
def moveT (f : Nat) : List Nat := bif Nat.beq f 26 then [2] else []
def fuseT : List (List Nat) := []
def attN (f : Nat) : List Nat := ([(3, [17, 81]), (5, [6]), (12, [11]), (19, [6])] : List (Nat × List Nat)).foldr (fun x r => bif Nat.beq f x.1 then x.2 else r) []
def attT (f d : Nat) : List Nat := bif mem? d (attN f) then [] else List.range 200
def bownT (f : Nat) : List Nat := []
def rawT : List (List Nat) := []
def lookT (f : Nat) : List Nat := []
def truncT (f : Nat) : List Nat := []
def loanT : List (List Nat) := [[], [], [], [], [], [], [], [], [], [], [], [], [], [], [], [], [], [], [], [], [], [], [], [], [], [], [], [26, 41, 48]]
noncomputable def adv : Adv := ⟨fun f r => (keepT.getD f []).getD r [], fun f => moveT f, fun f => refT f, attT, fun t => (bownT t), fun f r => (fuseT.getD f []).getD r 0, fun f d => mem? d (truncT f), fun f => rawT.getD f [], fun f => lookT f, fun f d => mem? d (loanT.getD f [])⟩
noncomputable def X0 : Ctx := ⟨Try.prog, adv, fun f => bif Nat.beq f 35 then some Prim.impl_startsOf else none, fun g => none, fun g => false, fun g => false⟩
abbrev S.laws_big : Sig := sg 4 [pL false 1] [] (ρ := Bool) fun r => ([[D.bool r]], [])
abbrev S.spec_l1New : Sig := sg 20 [pL false 1] [] (ρ := List Row × Int × Int) fun r => ([[D.sl false 1 r.fst, D.int IntKind.i64 r.snd.fst, D.int IntKind.i64 r.snd.snd]], [])
abbrev S.spec_l1Byte : Sig := sg 38 [pP 100000 0] [cB 56 [pL false 1, pI, pI]] (ρ := Int × List Row × Int × Int) fun r => ([[D.int IntKind.i64 r.fst]], [Cell.box 56 [V.d (D.sl false 1 r.snd.fst), V.d (D.int IntKind.i64 r.snd.snd.fst), V.d (D.int IntKind.i64 r.snd.snd.snd)]])
abbrev S.spec_l1Below : Sig := sg 30 [pP 100000 0, pI] [cB 56 [pL false 1, pI, pI]] (ρ := Int × List Row × Int × Int) fun r => ([[D.int IntKind.i64 r.fst]], [Cell.box 56 [V.d (D.sl false 1 r.snd.fst), V.d (D.int IntKind.i64 r.snd.snd.fst), V.d (D.int IntKind.i64 r.snd.snd.snd)]])
abbrev S.spec_l1Pick : Sig := sg 54 [pP 100000 0, pL false 1] [cB 56 [pL false 1, pI, pI]] (ρ := List UInt8 × List Row × Int × Int) fun r => ([[D.str r.fst]], [Cell.box 56 [V.d (D.sl false 1 r.snd.fst), V.d (D.int IntKind.i64 r.snd.snd.fst), V.d (D.int IntKind.i64 r.snd.snd.snd)]])
abbrev S.spec_l4Num : Sig := sg 56 [pP 100000 0] [cB 56 [pL false 1, pI, pI]] (ρ := List UInt8 × List Row × Int × Int) fun r => ([[D.str r.fst]], [Cell.box 56 [V.d (D.sl false 1 r.snd.fst), V.d (D.int IntKind.i64 r.snd.snd.fst), V.d (D.int IntKind.i64 r.snd.snd.snd)]])
abbrev S.spec_l4Str : Sig := sg 57 [pP 100000 0] [cB 56 [pL false 1, pI, pI]] (ρ := List UInt8 × List Row × Int × Int) fun r => ([[D.str r.fst]], [Cell.box 56 [V.d (D.sl false 1 r.snd.fst), V.d (D.int IntKind.i64 r.snd.snd.fst), V.d (D.int IntKind.i64 r.snd.snd.snd)]])
abbrev S.spec_l1Once : Sig := sg 29 [pP 100000 0, pI] [cB 56 [pL false 1, pI, pI]] (ρ := Bool × List Row × Int × Int) fun r => ([[D.bool r.fst]], [Cell.box 56 [V.d (D.sl false 1 r.snd.fst), V.d (D.int IntKind.i64 r.snd.snd.fst), V.d (D.int IntKind.i64 r.snd.snd.snd)]])
abbrev S.spec_l4Ere : Sig := sg 58 [pP 100000 0] [cB 56 [pL false 1, pI, pI]] (ρ := List UInt8 × List Row × Int × Int) fun r => ([[D.str r.fst]], [Cell.box 56 [V.d (D.sl false 1 r.snd.fst), V.d (D.int IntKind.i64 r.snd.snd.fst), V.d (D.int IntKind.i64 r.snd.snd.snd)]])
abbrev S.spec_l2Word : Sig := sg 48 [pP 100000 0] [cB 56 [pL false 1, pI, pI]] (ρ := List UInt8 × List Row × Int × Int) fun r => ([[D.str r.fst]], [Cell.box 56 [V.d (D.sl false 1 r.snd.fst), V.d (D.int IntKind.i64 r.snd.snd.fst), V.d (D.int IntKind.i64 r.snd.snd.snd)]])
abbrev S.spec_l7Leaf : Sig := sg 51 [pP 100000 0] [cB 56 [pL false 1, pI, pI]] (ρ := List Row × List Row × Int × Int) fun r => ([[D.sl true 5 r.fst]], [Cell.box 56 [V.d (D.sl false 1 r.snd.fst), V.d (D.int IntKind.i64 r.snd.snd.fst), V.d (D.int IntKind.i64 r.snd.snd.snd)]])
abbrev S.spec_l6Shift : Sig := sg 37 [pL false 5, pI] [] (ρ := List Row) fun r => ([[D.sl true 5 r]], [])
abbrev S.spec_l6Make : Sig := sg 45 [pAgg [pI, pI, pS, pS, pL false 1], pL false 1] [] (ρ := List Row) fun r => ([[D.sl true 5 r]], [])
abbrev S.spec_l7Lvalue : Sig := sg 52 [pP 100000 0, pI] [cB 56 [pL false 1, pI, pI]] (ρ := List Row × List Row × Int × Int) fun r => ([[D.sl true 5 r.fst]], [Cell.box 56 [V.d (D.sl false 1 r.snd.fst), V.d (D.int IntKind.i64 r.snd.snd.fst), V.d (D.int IntKind.i64 r.snd.snd.snd)]])
abbrev S.spec_l7List : Sig := sg 53 [pP 100000 0, pI, pI, pI] [cB 56 [pL false 1, pI, pI]] (ρ := List Row × List Row × Int × Int) fun r => ([[D.sl true 1 r.fst]], [Cell.box 56 [V.d (D.sl false 1 r.snd.fst), V.d (D.int IntKind.i64 r.snd.snd.fst), V.d (D.int IntKind.i64 r.snd.snd.snd)]])
abbrev S.spec_l1PickInt : Sig := sg 36 [pP 100000 0, pL false 1] [cB 56 [pL false 1, pI, pI]] (ρ := Int × List Row × Int × Int) fun r => ([[D.int IntKind.i64 r.fst]], [Cell.box 56 [V.d (D.sl false 1 r.snd.fst), V.d (D.int IntKind.i64 r.snd.snd.fst), V.d (D.int IntKind.i64 r.snd.snd.snd)]])
abbrev S.spec_l7BinOp : Sig := sg 55 [pP 100000 0] [cB 56 [pL false 1, pI, pI]] (ρ := Int × List Row × Int × Int) fun r => ([[D.int IntKind.i64 r.fst]], [Cell.box 56 [V.d (D.sl false 1 r.snd.fst), V.d (D.int IntKind.i64 r.snd.snd.fst), V.d (D.int IntKind.i64 r.snd.snd.snd)]])
abbrev S.spec_l7Expr : Sig := sg 43 [pP 100000 0, pI] [cB 56 [pL false 1, pI, pI]] (ρ := List Row × List Row × Int × Int) fun r => ([[D.sl true 5 r.fst]], [Cell.box 56 [V.d (D.sl false 1 r.snd.fst), V.d (D.int IntKind.i64 r.snd.snd.fst), V.d (D.int IntKind.i64 r.snd.snd.snd)]])
abbrev S.spec_l7Some : Sig := sg 39 [pP 100000 0] [cB 56 [pL false 1, pI, pI]] (ρ := List Row × List Row × Int × Int) fun r => ([[D.sl true 5 r.fst]], [Cell.box 56 [V.d (D.sl false 1 r.snd.fst), V.d (D.int IntKind.i64 r.snd.snd.fst), V.d (D.int IntKind.i64 r.snd.snd.snd)]])
abbrev S.spec_l7Simple : Sig := sg 44 [pP 100000 0, pI] [cB 56 [pL false 1, pI, pI]] (ρ := List Row × List Row × Int × Int) fun r => ([[D.sl true 5 r.fst]], [Cell.box 56 [V.d (D.sl false 1 r.snd.fst), V.d (D.int IntKind.i64 r.snd.snd.fst), V.d (D.int IntKind.i64 r.snd.snd.snd)]])
abbrev S.spec_l7Block : Sig := sg 46 [pP 100000 0, pI] [cB 56 [pL false 1, pI, pI]] (ρ := List Row × List Row × Int × Int) fun r => ([[D.sl true 5 r.fst]], [Cell.box 56 [V.d (D.sl false 1 r.snd.fst), V.d (D.int IntKind.i64 r.snd.snd.fst), V.d (D.int IntKind.i64 r.snd.snd.snd)]])
abbrev S.spec_l7Maybe : Sig := sg 47 [pP 100000 0, pI] [cB 56 [pL false 1, pI, pI]] (ρ := List Row × List Row × Int × Int) fun r => ([[D.sl true 5 r.fst]], [Cell.box 56 [V.d (D.sl false 1 r.snd.fst), V.d (D.int IntKind.i64 r.snd.snd.fst), V.d (D.int IntKind.i64 r.snd.snd.snd)]])
abbrev S.spec_l7Stmt : Sig := sg 40 [pP 100000 0, pI] [cB 56 [pL false 1, pI, pI]] (ρ := List Row × List Row × Int × Int) fun r => ([[D.sl true 5 r.fst]], [Cell.box 56 [V.d (D.sl false 1 r.snd.fst), V.d (D.int IntKind.i64 r.snd.snd.fst), V.d (D.int IntKind.i64 r.snd.snd.snd)]])
abbrev S.spec_l7Item : Sig := sg 49 [pP 100000 0] [cB 56 [pL false 1, pI, pI]] (ρ := List Row × List Row × Int × Int) fun r => ([[D.sl true 5 r.fst]], [Cell.box 56 [V.d (D.sl false 1 r.snd.fst), V.d (D.int IntKind.i64 r.snd.snd.fst), V.d (D.int IntKind.i64 r.snd.snd.snd)]])
abbrev S.spec_l7Program : Sig := sg 41 [pP 100000 0] [cB 56 [pL false 1, pI, pI]] (ρ := List Row × List Row × Int × Int) fun r => ([[D.sl true 5 r.fst]], [Cell.box 56 [V.d (D.sl false 1 r.snd.fst), V.d (D.int IntKind.i64 r.snd.snd.fst), V.d (D.int IntKind.i64 r.snd.snd.snd)]])
abbrev S.spec_l7Any : Sig := sg 31 [pP 100000 0] [cB 56 [pL false 1, pI, pI]] (ρ := List Row × List Row × Int × Int) fun r => ([[D.sl true 5 r.fst]], [Cell.box 56 [V.d (D.sl false 1 r.snd.fst), V.d (D.int IntKind.i64 r.snd.snd.fst), V.d (D.int IntKind.i64 r.snd.snd.snd)]])
abbrev S.spec_l6Bent : Sig := sg 27 [pP 100000 0] [cB 56 [pL false 1, pI, pI]] (ρ := Bool × List Row × List Row × Int × Int) fun r => ([[D.sl r.fst 5 r.snd.fst]], [Cell.box 56 [V.d (D.sl false 1 r.snd.snd.fst), V.d (D.int IntKind.i64 r.snd.snd.snd.fst), V.d (D.int IntKind.i64 r.snd.snd.snd.snd)]])
abbrev S.spec_l6Where : Sig := sg 19 [pP 100000 0] [cB 56 [pL false 1, pI, pI]] (ρ := Bool × List Row × Int × List Row × Int × Int) fun r => ([[D.sl r.fst 5 r.snd.fst], [D.int IntKind.i64 r.snd.snd.fst]], [Cell.box 56 [V.d (D.sl false 1 r.snd.snd.snd.fst), V.d (D.int IntKind.i64 r.snd.snd.snd.snd.fst), V.d (D.int IntKind.i64 r.snd.snd.snd.snd.snd)]])
abbrev S.spec_DrawPathOf : Sig := sg 5 [pL false 1] [] (ρ := Bool × List Row × Int) fun r => ([[D.sl r.fst 5 r.snd.fst], [D.int IntKind.i64 r.snd.snd]], [])
abbrev S.impl_startsOf : Sig := sg 35 [pL false 5] [] (ρ := List Row × Bool) fun r => ([[D.sl true 1 r.fst], [D.bool r.snd]], [])
abbrev S.impl_ShapeOk : Sig := sg 21 [pL false 5] [] (ρ := Bool) fun r => ([[D.bool r]], [])
abbrev S.impl_within : Sig := sg 22 [pI, pI, pI] [] (ρ := Bool) fun r => ([[D.bool r]], [])
abbrev S.impl_pathTo : Sig := sg 23 [pL false 5, pI, pI] [] (ρ := List Row × Bool) fun r => ([[D.sl true 1 r.fst], [D.bool r.snd]], [])
abbrev S.impl_PathOf : Sig := sg 6 [pL false 5, pI] [] (ρ := List Row) fun r => ([[D.sl true 1 r]], [])
abbrev S.spec_l1In : Sig := sg 24 [pI, pI, pI] [] (ρ := Bool) fun r => ([[D.bool r]], [])
abbrev S.spec_l6Starts : Sig := sg 25 [pL false 5] [] (ρ := List Row × Bool) fun r => ([[D.sl true 1 r.fst], [D.bool r.snd]], [])
abbrev S.spec_ShapeOk : Sig := sg 7 [pL false 5] [] (ρ := Bool) fun r => ([[D.bool r]], [])
abbrev S.impl_preorder : Sig := sg 26 [pL false 5, pI, pL true 1] [] (ρ := List Row) fun r => ([[D.sl true 1 r]], [])
abbrev S.impl_Preorder : Sig := sg 8 [pL false 5] [] (ρ := List Row) fun r => ([[D.sl true 1 r]], [])
abbrev S.impl_NodeBy : Sig := sg 9 [pL false 5, pL false 1] [] (ρ := Int) fun r => ([[D.int IntKind.i64 r]], [])
abbrev S.spec_DepthOf : Sig := sg 10 [pL false 5] [] (ρ := Int) fun r => ([[D.int IntKind.i64 r]], [])
abbrev S.laws_has : Sig := sg 11 [pL false 1, pI] [] (ρ := Bool) fun r => ([[D.bool r]], [])
abbrev S.spec_l6Copy : Sig := sg 28 [pL false 5] [] (ρ := List Row) fun r => ([[D.sl true 5 r]], [])
abbrev S.spec_DrawFirstApart : Sig := sg 12 [pL false 1] [] (ρ := Bool × List Row × Bool × List Row) fun r => ([[D.sl r.fst 5 r.snd.fst], [D.sl r.snd.snd.fst 5 r.snd.snd.snd]], [])
abbrev S.impl_FirstApart : Sig := sg 13 [pL false 5, pL false 5] [] (ρ := List Row) fun r => ([[D.sl true 1 r]], [])
abbrev S.spec_NodeBy : Sig := sg 14 [pL false 5, pL false 1] [] (ρ := Int) fun r => ([[D.int IntKind.i64 r]], [])
abbrev S.spec_l6Part : Sig := sg 33 [pL false 5, pI] [] (ρ := List Row) fun r => ([[D.sl true 5 r]], [])
abbrev S.spec_Part : Sig := sg 16 [pL false 5, pI] [] (ρ := List Row) fun r => ([[D.sl true 5 r]], [])
abbrev S.spec_l6Ints : Sig := sg 32 [pL false 1, pL false 1] [] (ρ := Bool) fun r => ([[D.bool r]], [])
abbrev S.spec_SameTree : Sig := sg 15 [pL false 5, pL false 5] [] (ρ := Bool) fun r => ([[D.bool r]], [])
abbrev S.spec_l44Apart : Sig := sg 34 [pL false 5, pI, pL false 5, pI] [] (ρ := List Row × Bool) fun r => ([[D.sl true 1 r.fst], [D.bool r.snd]], [])
abbrev S.spec_FirstApart : Sig := sg 18 [pL false 5, pL false 5] [] (ρ := List Row) fun r => ([[D.sl true 1 r]], [])
abbrev S.laws_sameInts : Sig := sg 17 [pL false 1, pL false 1] [] (ρ := Bool) fun r => ([[D.bool r]], [])
abbrev S.laws_FnPaths : Sig := sg 3 [pL false 1] [] (ρ := Bool) fun r => ([[D.bool r]], [])
def M.laws_big_C {R : Type} (code : List Row) (k : Bool → Option R) : Option R :=
  k (decide ((↑code.length : Int) > 1048576))
def M.laws_big (code : List Row) : Option (Bool) := M.laws_big_C code some
theorem C.laws_big : S.laws_big.ok X0 fun x => M.laws_big x.1.1 := fnS (fun x => M.laws_big_C x.1.1) [] [] (by intros; simp only [M.laws_big_C, nb] <;> rfl)
def M.spec_l1New_l3_C {R : Type} (code : List Row) (s : Int × Int) (kn : Int × Int → Option R) (ke : Int × Int → Option R) : Option R := match s with
  | (h', i) =>
    bif decide (i < (↑code.length : Int)) then
     (bif decide (i < 4000) then
      ((idx code i).bind fun row1 =>
       ((cInt IntKind.u8 row1 0).bind fun n2 =>
        (kn ((IntKind.i64.wrap (↑(BitVec.ofInt 64 (IntKind.i64.wrap (IntKind.i64.wrap (IntKind.i64.wrap (h' * 131) + IntKind.i64.wrap n2) + 7)) &&& BitVec.ofInt 64 1073741823).toNat : Int), IntKind.i64.wrap (i + 1)))))) else (ke ((h', i)))) else (ke ((h', i)))
def M.spec_l1New_l3_b (code : List Row) (s : Int × Int) := M.spec_l1New_l3_C code s (fun s => some (Sum.inl s)) fun t => some (Sum.inr t)
def M.spec_l1New_l3 (code : List Row) (s : Int × Int) : Option (Int × Int) := loopM (M.spec_l1New_l3_b code) s
def F.spec_l1New_l3 : LE X0 20 := le 3 (pSt [pAt 0 (pL false 1), pAt 3 pI, pAt 4 pI] []) (fun x => (x.1.2.1, x.1.2.2.1)) (fun x s => ((x.1.1, s.1, s.2, ()), ())) (fun x => .leaf (Int × Int) (fun t => (Ex.exit 0, { tm := [(0, V.d (D.sl false 1 x.1.1)), (3, V.d (D.int IntKind.i64 t.fst)), (4, V.d (D.int IntKind.i64 t.snd)), (15, V.d (D.bool false))], mem := [] }))) (fun x => M.spec_l1New_l3_C x.1.1) [] [] (by rintro _ _ ⟨_, _⟩ _ _ <;> simp only [M.spec_l1New_l3_C, nb] <;> rfl)
def M.spec_l1New_C {R : Type} (code : List Row) (k : List Row × Int × Int → Option R) : Option R :=
  (M.spec_l1New_l3 code ((IntKind.i64.wrap (10101 + (↑code.length : Int)), 0))).bind fun t3 => (k ((code, 0, t3.fst)))
def M.spec_l1New (code : List Row) : Option (List Row × Int × Int) := M.spec_l1New_C code some
theorem C.spec_l1New : S.spec_l1New.ok X0 fun x => M.spec_l1New x.1.1 := fnS (fun x => M.spec_l1New_C x.1.1) [] [F.spec_l1New_l3] (by intros; simp only [M.spec_l1New_C, nb] <;> rfl)
def M.spec_l1Byte_C {R : Type} (c : List Row) (c1 : Int) (c2 : Int) (k : Int × List Row × Int × Int → Option R) : Option R :=
  bif decide (c1 < (↑c.length : Int)) then
   ((idx c c1).bind fun row5 =>
    ((cInt IntKind.u8 row5 0).bind fun n6 =>
     (k ((IntKind.i64.wrap (↑(BitVec.ofInt 64 (IntKind.i64.wrap (IntKind.i64.wrap (↑(BitVec.ofInt 64 (IntKind.i64.wrap (↑(BitVec.ofInt 64 ((IntKind.i64.wrap (IntKind.i64.wrap (c2 * 6364136223846793005) + 1442695040888963407)).fdiv 8589934592) ^^^ BitVec.ofInt 64 ((IntKind.i64.wrap (IntKind.i64.wrap (c2 * 6364136223846793005) + 1442695040888963407)).fdiv 35184372088832)).toNat : Int)) &&& BitVec.ofInt 64 255).toNat : Int) + IntKind.i64.wrap n6)) &&& BitVec.ofInt 64 255).toNat : Int), c, IntKind.i64.wrap (c1 + 1), IntKind.i64.wrap (IntKind.i64.wrap (c2 * 6364136223846793005) + 1442695040888963407)))))) else
   (k ((IntKind.i64.wrap (↑(BitVec.ofInt 64 (IntKind.i64.wrap (↑(BitVec.ofInt 64 ((IntKind.i64.wrap (IntKind.i64.wrap (c2 * 6364136223846793005) + 1442695040888963407)).fdiv 8589934592) ^^^ BitVec.ofInt 64 ((IntKind.i64.wrap (IntKind.i64.wrap (c2 * 6364136223846793005) + 1442695040888963407)).fdiv 35184372088832)).toNat : Int)) &&& BitVec.ofInt 64 255).toNat : Int), c, c1, IntKind.i64.wrap (IntKind.i64.wrap (c2 * 6364136223846793005) + 1442695040888963407))))
def M.spec_l1Byte (c : List Row) (c1 : Int) (c2 : Int) : Option (Int × List Row × Int × Int) := M.spec_l1Byte_C c c1 c2 some
theorem C.spec_l1Byte : S.spec_l1Byte.ok X0 fun x => M.spec_l1Byte x.2.1.1 x.2.1.2.1 x.2.1.2.2.1 := fnS (fun x => M.spec_l1Byte_C x.2.1.1 x.2.1.2.1 x.2.1.2.2.1) [] [] (by intros; simp only [M.spec_l1Byte_C, nb] <;> rfl)
def M.spec_l1Below_C {R : Type} (n' : Int) (c : List Row) (c1 : Int) (c2 : Int) (k : Int × List Row × Int × Int → Option R) : Option R :=
  bif decide (n' ≤ 0) then (k ((0, c, c1, c2))) else
   (bif decide (n' ≤ 256) then
    ((M.spec_l1Byte c c1 c2).bind fun r7 =>
     (bif !decide (n' = 0) then (k ((r7.fst.tmod n', r7.snd.fst, r7.snd.snd.fst, r7.snd.snd.snd))) else none)) else
    ((M.spec_l1Byte c c1 c2).bind fun r8 =>
     ((M.spec_l1Byte r8.snd.fst r8.snd.snd.fst r8.snd.snd.snd).bind fun r9 =>
      ((M.spec_l1Byte r9.snd.fst r9.snd.snd.fst r9.snd.snd.snd).bind fun r10 =>
       ((M.spec_l1Byte r10.snd.fst r10.snd.snd.fst r10.snd.snd.snd).bind fun r11 =>
        (bif !decide (n' = 0) then
         (k (((IntKind.i64.wrap (IntKind.i64.wrap (IntKind.i64.wrap (IntKind.i64.wrap (r8.fst * 16777216) + IntKind.i64.wrap (r9.fst * 65536)) + IntKind.i64.wrap (r10.fst * 256)) + r11.fst)).tmod n', r11.snd.fst, r11.snd.snd.fst, r11.snd.snd.snd))) else none))))))
def M.spec_l1Below (n' : Int) (c : List Row) (c1 : Int) (c2 : Int) : Option (Int × List Row × Int × Int) := M.spec_l1Below_C n' c c1 c2 some
theorem C.spec_l1Below : S.spec_l1Below.ok X0 fun x => M.spec_l1Below x.1.2.1 x.2.1.1 x.2.1.2.1 x.2.1.2.2.1 := fnS (fun x => M.spec_l1Below_C x.1.2.1 x.2.1.1 x.2.1.2.1 x.2.1.2.2.1) [fe C.spec_l1Byte] [] (by intros; simp only [M.spec_l1Below_C, nb] <;> rfl)
def M.spec_l1Pick_C {R : Type} (list : List Row) (c : List Row) (c1 : Int) (c2 : Int) (k : List UInt8 × List Row × Int × Int → Option R) : Option R :=
  (M.spec_l1Below ((↑list.length : Int)) c c1 c2).bind fun r15 =>
   ((idx list r15.fst).bind fun row16 => ((cStr row16 0).bind fun s17 => (k ((s17, r15.snd.fst, r15.snd.snd.fst, r15.snd.snd.snd)))))
def M.spec_l1Pick (list : List Row) (c : List Row) (c1 : Int) (c2 : Int) : Option (List UInt8 × List Row × Int × Int) := M.spec_l1Pick_C list c c1 c2 some
theorem C.spec_l1Pick : S.spec_l1Pick.ok X0 fun x => M.spec_l1Pick x.1.2.1 x.2.1.1 x.2.1.2.1 x.2.1.2.2.1 := fnS (fun x => M.spec_l1Pick_C x.1.2.1 x.2.1.1 x.2.1.2.1 x.2.1.2.2.1) [fe C.spec_l1Below] [] (by intros; simp only [M.spec_l1Pick_C, nb] <;> rfl)
def M.spec_l4Num_C {R : Type} (c : List Row) (c1 : Int) (c2 : Int) (k : List UInt8 × List Row × Int × Int → Option R) : Option R :=
  (M.spec_l1Pick ([[D.str [48]], [D.str [49]], [D.str [52, 50]], [D.str [51, 46, 53]], [D.str [46, 53]], [D.str [55, 46]], [D.str [49, 101, 51]], [D.str [50, 69, 45, 52]], [D.str [49, 48, 46, 50, 53, 101, 43, 49]]]) c c1 c2).bind fun r18 => (k ((r18.fst, r18.snd.fst, r18.snd.snd.fst, r18.snd.snd.snd)))
def M.spec_l4Num (c : List Row) (c1 : Int) (c2 : Int) : Option (List UInt8 × List Row × Int × Int) := M.spec_l4Num_C c c1 c2 some
theorem C.spec_l4Num : S.spec_l4Num.ok X0 fun x => M.spec_l4Num x.2.1.1 x.2.1.2.1 x.2.1.2.2.1 := fnS (fun x => M.spec_l4Num_C x.2.1.1 x.2.1.2.1 x.2.1.2.2.1) [fe C.spec_l1Pick] [] (by intros; simp only [M.spec_l4Num_C, nb] <;> rfl)
def M.spec_l4Str_C {R : Type} (c : List Row) (c1 : Int) (c2 : Int) (k : List UInt8 × List Row × Int × Int → Option R) : Option R :=
  (M.spec_l1Pick ([[D.str [34, 34]], [D.str [34, 97, 34]], [D.str [34, 120, 32, 121, 34]], [D.str [34, 113, 92, 34, 113, 34]], [D.str [34, 92, 110, 34]], [D.str [34, 35, 110, 111, 34]], [D.str [34, 47, 34]]]) c c1 c2).bind fun r20 => (k ((r20.fst, r20.snd.fst, r20.snd.snd.fst, r20.snd.snd.snd)))
def M.spec_l4Str (c : List Row) (c1 : Int) (c2 : Int) : Option (List UInt8 × List Row × Int × Int) := M.spec_l4Str_C c c1 c2 some
theorem C.spec_l4Str : S.spec_l4Str.ok X0 fun x => M.spec_l4Str x.2.1.1 x.2.1.2.1 x.2.1.2.2.1 := fnS (fun x => M.spec_l4Str_C x.2.1.1 x.2.1.2.1 x.2.1.2.2.1) [fe C.spec_l1Pick] [] (by intros; simp only [M.spec_l4Str_C, nb] <;> rfl)
def M.spec_l1Once_C {R : Type} (n' : Int) (c : List Row) (c1 : Int) (c2 : Int) (k : Bool × List Row × Int × Int → Option R) : Option R :=
  (M.spec_l1Below n' c c1 c2).bind fun r22 => (k ((r22.fst == 0, r22.snd.fst, r22.snd.snd.fst, r22.snd.snd.snd)))
def M.spec_l1Once (n' : Int) (c : List Row) (c1 : Int) (c2 : Int) : Option (Bool × List Row × Int × Int) := M.spec_l1Once_C n' c c1 c2 some
theorem C.spec_l1Once : S.spec_l1Once.ok X0 fun x => M.spec_l1Once x.1.2.1 x.2.1.1 x.2.1.2.1 x.2.1.2.2.1 := fnS (fun x => M.spec_l1Once_C x.1.2.1 x.2.1.1 x.2.1.2.1 x.2.1.2.2.1) [fe C.spec_l1Below] [] (by intros; simp only [M.spec_l1Once_C, nb] <;> rfl)
def M.spec_l4Ere_C {R : Type} (c : List Row) (c1 : Int) (c2 : Int) (k : List UInt8 × List Row × Int × Int → Option R) : Option R :=
  (M.spec_l1Pick ([[D.str [47, 97, 47]], [D.str [47, 94, 120, 43, 36, 47]], [D.str [47, 97, 92, 47, 98, 47]], [D.str [47, 61, 47]], [D.str [47, 32, 47]], [D.str [47, 91, 48, 45, 57, 93, 47]]]) c c1 c2).bind fun r24 => (k ((r24.fst, r24.snd.fst, r24.snd.snd.fst, r24.snd.snd.snd)))
def M.spec_l4Ere (c : List Row) (c1 : Int) (c2 : Int) : Option (List UInt8 × List Row × Int × Int) := M.spec_l4Ere_C c c1 c2 some
theorem C.spec_l4Ere : S.spec_l4Ere.ok X0 fun x => M.spec_l4Ere x.2.1.1 x.2.1.2.1 x.2.1.2.2.1 := fnS (fun x => M.spec_l4Ere_C x.2.1.1 x.2.1.2.1 x.2.1.2.2.1) [fe C.spec_l1Pick] [] (by intros; simp only [M.spec_l4Ere_C, nb] <;> rfl)
def M.spec_l2Word_C {R : Type} (c : List Row) (c1 : Int) (c2 : Int) (k : List UInt8 × List Row × Int × Int → Option R) : Option R :=
  (M.spec_l1Pick ([[D.str [120]], [D.str [121]], [D.str [110]], [D.str [105]], [D.str [97, 114, 114]], [D.str [78, 82]], [D.str [70, 83]], [D.str [116, 111, 116, 97, 108]], [D.str [97, 49]], [D.str [95, 116]], [D.str [99, 111, 117, 110, 116]]]) c c1 c2).bind fun r26 => (k ((r26.fst, r26.snd.fst, r26.snd.snd.fst, r26.snd.snd.snd)))
def M.spec_l2Word (c : List Row) (c1 : Int) (c2 : Int) : Option (List UInt8 × List Row × Int × Int) := M.spec_l2Word_C c c1 c2 some
theorem C.spec_l2Word : S.spec_l2Word.ok X0 fun x => M.spec_l2Word x.2.1.1 x.2.1.2.1 x.2.1.2.2.1 := fnS (fun x => M.spec_l2Word_C x.2.1.1 x.2.1.2.1 x.2.1.2.2.1) [fe C.spec_l1Pick] [] (by intros; simp only [M.spec_l2Word_C, nb] <;> rfl)
def M.spec_l7Leaf_C {R : Type} (c : List Row) (c1 : Int) (c2 : Int) (k : List Row × List Row × Int × Int → Option R) : Option R :=
  (M.spec_l1Below 7 c c1 c2).bind fun r14 =>
   (bif r14.fst == 0 then
    ((M.spec_l4Num r14.snd.fst r14.snd.snd.fst r14.snd.snd.snd).bind fun r19 =>
     (k (([[D.int IntKind.i64 2, D.int IntKind.i64 0, D.str r19.fst, D.str [], D.sl true 1 []]], r19.snd.fst, r19.snd.snd.fst, r19.snd.snd.snd)))) else
    (bif r14.fst == 1 then
     ((M.spec_l4Str r14.snd.fst r14.snd.snd.fst r14.snd.snd.snd).bind fun r21 =>
      (k (([[D.int IntKind.i64 3, D.int IntKind.i64 0, D.str r21.fst, D.str [], D.sl true 1 []]], r21.snd.fst, r21.snd.snd.fst, r21.snd.snd.snd)))) else
     (bif r14.fst == 2 then
      ((M.spec_l1Once 2 r14.snd.fst r14.snd.snd.fst r14.snd.snd.snd).bind fun r23 =>
       (bif r23.fst then
        ((M.spec_l4Ere r23.snd.fst r23.snd.snd.fst r23.snd.snd.snd).bind fun r25 =>
         (k (([[D.int IntKind.i64 4, D.int IntKind.i64 0, D.str r25.fst, D.str [], D.sl true 1 []]], r25.snd.fst, r25.snd.snd.fst, r25.snd.snd.snd)))) else
        ((M.spec_l2Word r23.snd.fst r23.snd.snd.fst r23.snd.snd.snd).bind fun r27 =>
         (k (([[D.int IntKind.i64 1, D.int IntKind.i64 0, D.str r27.fst, D.str [], D.sl true 1 []]], r27.snd.fst, r27.snd.snd.fst, r27.snd.snd.snd)))))) else
      ((M.spec_l2Word r14.snd.fst r14.snd.snd.fst r14.snd.snd.snd).bind fun r28 =>
       (k (([[D.int IntKind.i64 1, D.int IntKind.i64 0, D.str r28.fst, D.str [], D.sl true 1 []]], r28.snd.fst, r28.snd.snd.fst, r28.snd.snd.snd)))))))
def M.spec_l7Leaf (c : List Row) (c1 : Int) (c2 : Int) : Option (List Row × List Row × Int × Int) := M.spec_l7Leaf_C c c1 c2 some
theorem C.spec_l7Leaf : S.spec_l7Leaf.ok X0 fun x => M.spec_l7Leaf x.2.1.1 x.2.1.2.1 x.2.1.2.2.1 := fnS (fun x => M.spec_l7Leaf_C x.2.1.1 x.2.1.2.1 x.2.1.2.2.1) [fe C.spec_l1Below, fe C.spec_l4Num, fe C.spec_l4Str, fe C.spec_l1Once, fe C.spec_l4Ere, fe C.spec_l2Word] [] (by intros; simp only [M.spec_l7Leaf_C, nb] <;> rfl)
def M.spec_l6Shift_l8_C {R : Type} (l : List Row) (by' : Int) (i : Int) (x' : List Row) (x'1 : Int) (x'2 : Int) (x'3 : List UInt8) (x'4 : List UInt8) (s : Int × List Row) (kn : Int × List Row → Option R) (ke : Int × List Row → Option R) : Option R := match s with
  | (k', x'5) =>
    (idx l i).bind fun row44 =>
     ((cSl 1 row44 4).bind fun rows45 =>
      (bif decide (k' < (↑rows45.length : Int)) then
       ((idx l i).bind fun row46 =>
        ((cSl 1 row46 4).bind fun rows47 =>
         ((idx rows47 k').bind fun row48 =>
          ((cInt IntKind.i64 row48 0).bind fun n49 =>
           (bif ((x'5.length + [[D.int IntKind.i64 (IntKind.i64.wrap (n49 + by'))]].length) * 8).ble 140737488355328 then
            (bif (x'5.length + [[D.int IntKind.i64 (IntKind.i64.wrap (n49 + by'))]].length).ble 140737488355328 then
             (kn ((IntKind.i64.wrap (k' + 1), x'5 ++ [[D.int IntKind.i64 (IntKind.i64.wrap (n49 + by'))]]))) else none) else none))))) else (ke ((k', x'5)))))
def M.spec_l6Shift_l8_b (l : List Row) (by' : Int) (i : Int) (x' : List Row) (x'1 : Int) (x'2 : Int) (x'3 : List UInt8) (x'4 : List UInt8) (s : Int × List Row) := M.spec_l6Shift_l8_C l by' i x' x'1 x'2 x'3 x'4 s (fun s => some (Sum.inl s)) fun t => some (Sum.inr t)
def M.spec_l6Shift_l8 (l : List Row) (by' : Int) (i : Int) (x' : List Row) (x'1 : Int) (x'2 : Int) (x'3 : List UInt8) (x'4 : List UInt8) (s : Int × List Row) : Option (Int × List Row) := loopM (M.spec_l6Shift_l8_b l by' i x' x'1 x'2 x'3 x'4) s
def F.spec_l6Shift_l8 : LE X0 37 := le 8 (pSt [pAt 0 (pL false 5), pAt 1 pI, pAt 5 (pO 300000 0), pAt 6 pI, pAt 7 (pP 300001 0), pAt 8 pI] [pAt 300000 (cA false false 0 5), pAt 300001 (cB 49 [pI, pI, pS, pS, pO 300002 0]), pAt 300002 (cA false true 0 1)]) (fun x => (x.1.2.2.2.2.2.1, x.2.2.2.1)) (fun x s => ((x.1.1, x.1.2.1, (), x.1.2.2.2.1, (), s.1, ()), (x.2.1, (x.2.2.1.1, x.2.2.1.2.1, x.2.2.1.2.2.1, x.2.2.1.2.2.2.1, (), ()), s.2, ()))) (fun x => .leaf (Int × List Row) (fun t => (Ex.exit 2, { tm := [(0, V.d (D.sl false 5 x.1.1)), (1, V.d (D.int IntKind.i64 x.1.2.1)), (5, V.own 300000 0), (6, V.d (D.int IntKind.i64 x.1.2.2.2.1)), (7, V.ptr 300001 0), (8, V.d (D.int IntKind.i64 t.fst)), (29, V.d (D.bool false))], mem := [(300000, Cell.arr false false 0 5 x.2.1), (300001, Cell.box 49 [V.d (D.int IntKind.i64 x.2.2.1.1), V.d (D.int IntKind.i64 x.2.2.1.2.1), V.d (D.str x.2.2.1.2.2.1), V.d (D.str x.2.2.1.2.2.2.1), V.own 300002 0]), (300002, Cell.arr false true 0 1 t.snd)] }))) (fun x => M.spec_l6Shift_l8_C x.1.1 x.1.2.1 x.1.2.2.2.1 x.2.1 x.2.2.1.1 x.2.2.1.2.1 x.2.2.1.2.2.1 x.2.2.1.2.2.2.1) [] [] (by rintro _ _ ⟨_, _⟩ _ _ <;> simp only [M.spec_l6Shift_l8_C, nb] <;> rfl)
def M.spec_l6Shift_l3_C {R : Type} (l : List Row) (by' : Int) (s : Int × List Row) (kn : Int × List Row → Option R) (ke : Int × List Row → Option R) : Option R := match s with
  | (i, x') =>
    bif decide (i < (↑l.length : Int)) then
     ((idx l i).bind fun row38 =>
      ((cInt IntKind.i64 row38 0).bind fun n39 =>
       ((cInt IntKind.i64 row38 1).bind fun n40 =>
        ((cStr row38 2).bind fun s41 =>
         ((cStr row38 3).bind fun s42 =>
          ((cSl 1 row38 4).bind fun rows43 =>
           ((M.spec_l6Shift_l8 l by' i x' n39 n40 s41 s42 ((0, []))).bind fun t50 =>
            (bif flatRows t50.snd then
             (bif ((x'.length + [[D.int IntKind.i64 n39, D.int IntKind.i64 n40, D.str s41, D.str s42, D.sl true 1 t50.snd]].length) * 72).ble 140737488355328 then
              (bif (x'.length + [[D.int IntKind.i64 n39, D.int IntKind.i64 n40, D.str s41, D.str s42, D.sl true 1 t50.snd]].length).ble 140737488355328 then
               (kn ((IntKind.i64.wrap (i + 1), x' ++ [[D.int IntKind.i64 n39, D.int IntKind.i64 n40, D.str s41, D.str s42, D.sl true 1 t50.snd]]))) else none) else none) else none)))))))) else (ke ((i, x')))
def M.spec_l6Shift_l3_b (l : List Row) (by' : Int) (s : Int × List Row) := M.spec_l6Shift_l3_C l by' s (fun s => some (Sum.inl s)) fun t => some (Sum.inr t)
def M.spec_l6Shift_l3 (l : List Row) (by' : Int) (s : Int × List Row) : Option (Int × List Row) := loopM (M.spec_l6Shift_l3_b l by') s
def F.spec_l6Shift_l3 : LE X0 37 := le 3 (pSt [pAt 0 (pL false 5), pAt 1 pI, pAt 5 (pO 300000 0), pAt 6 pI] [pAt 300000 (cA false false 0 5)]) (fun x => (x.1.2.2.2.1, x.2.1)) (fun x s => ((x.1.1, x.1.2.1, (), s.1, ()), (s.2, ()))) (fun x => .leaf (Int × List Row) (fun t => (Ex.exit 0, { tm := [(0, V.d (D.sl false 5 x.1.1)), (1, V.d (D.int IntKind.i64 x.1.2.1)), (5, V.own 300000 0), (6, V.d (D.int IntKind.i64 t.fst)), (13, V.d (D.bool false))], mem := [(300000, Cell.arr false false 0 5 t.snd)] }))) (fun x => M.spec_l6Shift_l3_C x.1.1 x.1.2.1) [] [F.spec_l6Shift_l8] (by rintro _ _ ⟨_, _⟩ _ _ <;> simp only [M.spec_l6Shift_l3_C, nb] <;> rfl)
def M.spec_l6Shift_C {R : Type} (l : List Row) (by' : Int) (k : List Row → Option R) : Option R :=
  (M.spec_l6Shift_l3 l by' ((0, []))).bind fun t51 => (k t51.snd)
def M.spec_l6Shift (l : List Row) (by' : Int) : Option (List Row) := M.spec_l6Shift_C l by' some
theorem C.spec_l6Shift : S.spec_l6Shift.ok X0 fun x => M.spec_l6Shift x.1.1 x.1.2.1 := fnS (fun x => M.spec_l6Shift_C x.1.1 x.1.2.1) [] [F.spec_l6Shift_l3] (by intros; simp only [M.spec_l6Shift_C, nb] <;> rfl)
def M.spec_l6Make_l4_C {R : Type} (parts : List Row) (x' : Int) (x'1 : Int) (x'2 : List UInt8) (x'3 : List UInt8) (s : Int × List Row × List Row) (kn : Int × List Row × List Row → Option R) (ke : Int × List Row × List Row → Option R) : Option R := match s with
  | (k', x'4, x'5) =>
    bif decide (k' < (↑parts.length : Int)) then
     ((idx parts k').bind fun row36 =>
      ((cSl 5 row36 0).bind fun rows37 =>
       ((M.spec_l6Shift rows37 ((↑x'4.length : Int))).bind fun r52 =>
        (bif ((x'4.length + r52.length) * 72).ble 140737488355328 then
         (bif (x'4.length + r52.length).ble 140737488355328 then
          (bif ((x'5.length + [[D.int IntKind.i64 (IntKind.i64.wrap ((↑(x'4 ++ r52).length : Int) - 1))]].length) * 8).ble 140737488355328 then
           (bif (x'5.length + [[D.int IntKind.i64 (IntKind.i64.wrap ((↑(x'4 ++ r52).length : Int) - 1))]].length).ble 140737488355328 then
            (kn ((IntKind.i64.wrap (k' + 1), x'4 ++ r52, x'5 ++ [[D.int IntKind.i64 (IntKind.i64.wrap ((↑(x'4 ++ r52).length : Int) - 1))]]))) else none) else none) else none) else none)))) else (ke ((k', x'4, x'5)))
def M.spec_l6Make_l4_b (parts : List Row) (x' : Int) (x'1 : Int) (x'2 : List UInt8) (x'3 : List UInt8) (s : Int × List Row × List Row) := M.spec_l6Make_l4_C parts x' x'1 x'2 x'3 s (fun s => some (Sum.inl s)) fun t => some (Sum.inr t)
def M.spec_l6Make_l4 (parts : List Row) (x' : Int) (x'1 : Int) (x'2 : List UInt8) (x'3 : List UInt8) (s : Int × List Row × List Row) : Option (Int × List Row × List Row) := loopM (M.spec_l6Make_l4_b parts x' x'1 x'2 x'3) s
def F.spec_l6Make_l4 : LE X0 45 := le 4 (pSt [pAt 1 (pL false 1), pAt 2 (pP 300000 0), pAt 5 (pO 300001 0), pAt 6 pI] [pAt 300000 (cB 49 [pI, pI, pS, pS, pO 300002 0]), pAt 300001 (cA false false 0 5), pAt 300002 (cA false true 0 1)]) (fun x => (x.1.2.2.2.1, x.2.2.1, x.2.2.2.1)) (fun x s => ((x.1.1, (), (), s.1, ()), ((x.2.1.1, x.2.1.2.1, x.2.1.2.2.1, x.2.1.2.2.2.1, (), ()), s.2.1, s.2.2, ()))) (fun x => .leaf (Int × List Row × List Row) (fun t => (Ex.exit 0, { tm := [(1, V.d (D.sl false 1 x.1.1)), (2, V.ptr 300000 0), (5, V.own 300001 0), (6, V.d (D.int IntKind.i64 t.fst)), (13, V.d (D.bool false))], mem := [(300000, Cell.box 49 [V.d (D.int IntKind.i64 x.2.1.1), V.d (D.int IntKind.i64 x.2.1.2.1), V.d (D.str x.2.1.2.2.1), V.d (D.str x.2.1.2.2.2.1), V.own 300002 0]), (300001, Cell.arr false false 0 5 t.snd.fst), (300002, Cell.arr false true 0 1 t.snd.snd)] }))) (fun x => M.spec_l6Make_l4_C x.1.1 x.2.1.1 x.2.1.2.1 x.2.1.2.2.1 x.2.1.2.2.2.1) [fe C.spec_l6Shift] [] (by rintro _ _ ⟨_, _, _⟩ _ _ <;> simp only [M.spec_l6Make_l4_C, nb] <;> rfl)
def M.spec_l6Make_C {R : Type} (n' : Int) (n'1 : Int) (n'2 : List UInt8) (n'3 : List UInt8) (n'4 : List Row) (parts : List Row) (k : List Row → Option R) : Option R :=
  (M.spec_l6Make_l4 parts n' n'1 n'2 n'3 ((0, [], []))).bind fun t53 =>
   (bif flatRows t53.snd.snd then
    (bif ((t53.snd.fst.length + [[D.int IntKind.i64 n', D.int IntKind.i64 n'1, D.str n'2, D.str n'3, D.sl true 1 t53.snd.snd]].length) * 72).ble 140737488355328 then
     (bif (t53.snd.fst.length + [[D.int IntKind.i64 n', D.int IntKind.i64 n'1, D.str n'2, D.str n'3, D.sl true 1 t53.snd.snd]].length).ble 140737488355328 then
      (k (t53.snd.fst ++ [[D.int IntKind.i64 n', D.int IntKind.i64 n'1, D.str n'2, D.str n'3, D.sl true 1 t53.snd.snd]])) else none) else none) else none)
def M.spec_l6Make (n' : Int) (n'1 : Int) (n'2 : List UInt8) (n'3 : List UInt8) (n'4 : List Row) (parts : List Row) : Option (List Row) := M.spec_l6Make_C n' n'1 n'2 n'3 n'4 parts some
theorem C.spec_l6Make : S.spec_l6Make.ok X0 fun x => M.spec_l6Make x.1.1.1 x.1.1.2.1 x.1.1.2.2.1 x.1.1.2.2.2.1 x.1.1.2.2.2.2.1 x.1.2.1 := fnS (fun x => M.spec_l6Make_C x.1.1.1 x.1.1.2.1 x.1.1.2.2.1 x.1.1.2.2.2.1 x.1.1.2.2.2.2.1 x.1.2.1) [] [F.spec_l6Make_l4] (by intros; simp only [M.spec_l6Make_C, nb] <;> rfl)
def M.spec_l7Lvalue_C {R : Type} (rec_spec_l7Expr : Int → List Row → Int → Int → Option (List Row × List Row × Int × Int)) (deep : Int) (c : List Row) (c1 : Int) (c2 : Int) (k : List Row × List Row × Int × Int → Option R) : Option R :=
  (M.spec_l1Below 4 c c1 c2).bind fun r33 =>
   (bif r33.fst == 0 then
    ((M.spec_l2Word r33.snd.fst r33.snd.snd.fst r33.snd.snd.snd).bind fun r34 =>
     ((rec_spec_l7Expr (IntKind.i64.wrap (deep - 1)) r34.snd.fst r34.snd.snd.fst r34.snd.snd.snd).bind fun r35 =>
      ((M.spec_l6Make 5 0 r34.fst [] [] (fzRows [[D.sl true 5 r35.fst]])).bind fun r54 =>
       (bif [[D.sl true 5 r54]].all pureRow then (k ((r54, r35.snd.fst, r35.snd.snd.fst, r35.snd.snd.snd))) else none)))) else
    (bif r33.fst == 1 then
     ((rec_spec_l7Expr (IntKind.i64.wrap (deep - 2)) r33.snd.fst r33.snd.snd.fst r33.snd.snd.snd).bind fun r55 =>
      ((M.spec_l6Make 6 0 [] [] [] (fzRows [[D.sl true 5 r55.fst]])).bind fun r56 =>
       (bif [[D.sl true 5 r56]].all pureRow then (k ((r56, r55.snd.fst, r55.snd.snd.fst, r55.snd.snd.snd))) else none))) else
     ((M.spec_l2Word r33.snd.fst r33.snd.snd.fst r33.snd.snd.snd).bind fun r57 =>
      (k (([[D.int IntKind.i64 1, D.int IntKind.i64 0, D.str r57.fst, D.str [], D.sl true 1 []]], r57.snd.fst, r57.snd.snd.fst, r57.snd.snd.snd))))))
theorem C.spec_l7Lvalue_r1 {rec_spec_l7Expr : Int → List Row → Int → Int → Option (List Row × List Row × Int × Int)} (h_spec_l7Expr : S.spec_l7Expr.ok X0 fun x => rec_spec_l7Expr x.1.2.1 x.2.1.1 x.2.1.2.1 x.2.1.2.2.1) : S.spec_l7Lvalue.ok X0 fun x => M.spec_l7Lvalue_C rec_spec_l7Expr x.1.2.1 x.2.1.1 x.2.1.2.1 x.2.1.2.2.1 some := fnS (fun x => M.spec_l7Lvalue_C rec_spec_l7Expr x.1.2.1 x.2.1.1 x.2.1.2.1 x.2.1.2.2.1) [fe C.spec_l1Below, fe C.spec_l2Word, fe h_spec_l7Expr, fe C.spec_l6Make] [] (by intros; simp only [M.spec_l7Lvalue_C, nb] <;> rfl)
def M.spec_l7List_l3_C {R : Type} (rec_spec_l7Expr : Int → List Row → Int → Int → Option (List Row × List Row × Int × Int)) (deep : Int) (s : Int × List Row × Int × Int × List Row) (kn : Int × List Row × Int × Int × List Row → Option R) (ke : Int × List Row × Int × Int × List Row → Option R) : Option R := match s with
  | (n', v, v1, v2, x') =>
    bif decide (n' > 0) then
     ((rec_spec_l7Expr deep v v1 v2).bind fun r63 =>
      (bif ((x'.length + [[D.sl true 5 r63.fst]].length) * 24).ble 140737488355328 then
       (bif (x'.length + [[D.sl true 5 r63.fst]].length).ble 140737488355328 then
        (kn ((IntKind.i64.wrap (n' - 1), r63.snd.fst, r63.snd.snd.fst, r63.snd.snd.snd, x' ++ [[D.sl true 5 r63.fst]]))) else none) else none)) else (ke ((n', v, v1, v2, x')))
def M.spec_l7List_l3_b (rec_spec_l7Expr : Int → List Row → Int → Int → Option (List Row × List Row × Int × Int)) (deep : Int) (s : Int × List Row × Int × Int × List Row) := M.spec_l7List_l3_C rec_spec_l7Expr deep s (fun s => some (Sum.inl s)) fun t => some (Sum.inr t)
def M.spec_l7List_l3 (rec_spec_l7Expr : Int → List Row → Int → Int → Option (List Row × List Row × Int × Int)) (deep : Int) (s : Int × List Row × Int × Int × List Row) : Option (Int × List Row × Int × Int × List Row) := loopM (M.spec_l7List_l3_b rec_spec_l7Expr deep) s
def F.spec_l7List_l3 {rec_spec_l7Expr : Int → List Row → Int → Int → Option (List Row × List Row × Int × Int)} (h_spec_l7Expr : S.spec_l7Expr.ok X0 fun x => rec_spec_l7Expr x.1.2.1 x.2.1.1 x.2.1.2.1 x.2.1.2.2.1) : LE X0 53 := le 3 (pSt [pAt 0 (pP 100000 0), pAt 3 pI, pAt 9 (pO 300000 0), pAt 10 pI] [pAt 100000 (cB 56 [pL false 1, pI, pI]), pAt 300000 (cA false false 0 1)]) (fun x => (x.1.2.2.2.1, x.2.1.1, x.2.1.2.1, x.2.1.2.2.1, x.2.2.1)) (fun x s => (((), x.1.2.1, (), s.1, ()), ((s.2.1, s.2.2.1, s.2.2.2.1, ()), s.2.2.2.2, ()))) (fun x => .leaf (Int × List Row × Int × Int × List Row) (fun t => (Ex.exit 0, { tm := [(0, V.ptr 100000 0), (3, V.d (D.int IntKind.i64 x.1.2.1)), (9, V.own 300000 0), (10, V.d (D.int IntKind.i64 t.fst)), (21, V.d (D.bool false))], mem := [(100000, Cell.box 56 [V.d (D.sl false 1 t.snd.fst), V.d (D.int IntKind.i64 t.snd.snd.fst), V.d (D.int IntKind.i64 t.snd.snd.snd.fst)]), (300000, Cell.arr false false 0 1 t.snd.snd.snd.snd)] }))) (fun x => M.spec_l7List_l3_C rec_spec_l7Expr x.1.2.1) [fe h_spec_l7Expr] [] (by rintro _ _ ⟨_, _, _, _, _⟩ _ _ <;> simp only [M.spec_l7List_l3_C, nb] <;> rfl)
def M.spec_l7List_C {R : Type} (rec_spec_l7Expr : Int → List Row → Int → Int → Option (List Row × List Row × Int × Int)) (least : Int) (most : Int) (deep : Int) (c : List Row) (c1 : Int) (c2 : Int) (k : List Row × List Row × Int × Int → Option R) : Option R :=
  (M.spec_l1Below (IntKind.i64.wrap (IntKind.i64.wrap (most - least) + 1)) c c1 c2).bind fun r62 =>
   ((M.spec_l7List_l3 rec_spec_l7Expr deep ((IntKind.i64.wrap (least + r62.fst), r62.snd.fst, r62.snd.snd.fst, r62.snd.snd.snd, []))).bind fun t64 => (k ((t64.snd.snd.snd.snd, t64.snd.fst, t64.snd.snd.fst, t64.snd.snd.snd.fst))))
theorem C.spec_l7List_r1 {rec_spec_l7Expr : Int → List Row → Int → Int → Option (List Row × List Row × Int × Int)} (h_spec_l7Expr : S.spec_l7Expr.ok X0 fun x => rec_spec_l7Expr x.1.2.1 x.2.1.1 x.2.1.2.1 x.2.1.2.2.1) : S.spec_l7List.ok X0 fun x => M.spec_l7List_C rec_spec_l7Expr x.1.2.1 x.1.2.2.1 x.1.2.2.2.1 x.2.1.1 x.2.1.2.1 x.2.1.2.2.1 some := fnS (fun x => M.spec_l7List_C rec_spec_l7Expr x.1.2.1 x.1.2.2.1 x.1.2.2.2.1 x.2.1.1 x.2.1.2.1 x.2.1.2.2.1) [fe C.spec_l1Below] [F.spec_l7List_l3 h_spec_l7Expr] (by intros; simp only [M.spec_l7List_C, nb] <;> rfl)
def M.spec_l1PickInt_C {R : Type} (list : List Row) (c : List Row) (c1 : Int) (c2 : Int) (k : Int × List Row × Int × Int → Option R) : Option R :=
  (M.spec_l1Below ((↑list.length : Int)) c c1 c2).bind fun r74 =>
   ((idx list r74.fst).bind fun row75 =>
    ((cInt IntKind.i64 row75 0).bind fun n76 => (k ((n76, r74.snd.fst, r74.snd.snd.fst, r74.snd.snd.snd)))))
def M.spec_l1PickInt (list : List Row) (c : List Row) (c1 : Int) (c2 : Int) : Option (Int × List Row × Int × Int) := M.spec_l1PickInt_C list c c1 c2 some
theorem C.spec_l1PickInt : S.spec_l1PickInt.ok X0 fun x => M.spec_l1PickInt x.1.2.1 x.2.1.1 x.2.1.2.1 x.2.1.2.2.1 := fnS (fun x => M.spec_l1PickInt_C x.1.2.1 x.2.1.1 x.2.1.2.1 x.2.1.2.2.1) [fe C.spec_l1Below] [] (by intros; simp only [M.spec_l1PickInt_C, nb] <;> rfl)
def M.spec_l7BinOp_C {R : Type} (c : List Row) (c1 : Int) (c2 : Int) (k : Int × List Row × Int × Int → Option R) : Option R :=
  (M.spec_l1PickInt ([[D.int IntKind.i64 60], [D.int IntKind.i64 57], [D.int IntKind.i64 58], [D.int IntKind.i64 59], [D.int IntKind.i64 55], [D.int IntKind.i64 56], [D.int IntKind.i64 56], [D.int IntKind.i64 99], [D.int IntKind.i64 99], [D.int IntKind.i64 99], [D.int IntKind.i64 63], [D.int IntKind.i64 48], [D.int IntKind.i64 47], [D.int IntKind.i64 50], [D.int IntKind.i64 62], [D.int IntKind.i64 62], [D.int IntKind.i64 49], [D.int IntKind.i64 67], [D.int IntKind.i64 46], [D.int IntKind.i64 45], [D.int IntKind.i64 44]]) c c1 c2).bind fun r94 => (k ((r94.fst, r94.snd.fst, r94.snd.snd.fst, r94.snd.snd.snd)))
def M.spec_l7BinOp (c : List Row) (c1 : Int) (c2 : Int) : Option (Int × List Row × Int × Int) := M.spec_l7BinOp_C c c1 c2 some
theorem C.spec_l7BinOp : S.spec_l7BinOp.ok X0 fun x => M.spec_l7BinOp x.2.1.1 x.2.1.2.1 x.2.1.2.2.1 := fnS (fun x => M.spec_l7BinOp_C x.2.1.1 x.2.1.2.1 x.2.1.2.2.1) [fe C.spec_l1PickInt] [] (by intros; simp only [M.spec_l7BinOp_C, nb] <;> rfl)
def M.spec_l7Expr_C {R : Type} (rec_spec_l7Lvalue : Int → List Row → Int → Int → Option (List Row × List Row × Int × Int)) (rec_spec_l7Expr : Int → List Row → Int → Int → Option (List Row × List Row × Int × Int)) (rec_spec_l7List : Int → Int → Int → List Row → Int → Int → Option (List Row × List Row × Int × Int)) (deep : Int) (c : List Row) (c1 : Int) (c2 : Int) (k : List Row × List Row × Int × Int → Option R) : Option R :=
  bif decide (deep ≤ 0) then
   ((M.spec_l7Leaf c c1 c2).bind fun r29 => (k ((r29.fst, r29.snd.fst, r29.snd.snd.fst, r29.snd.snd.snd)))) else
   ((M.spec_l1Below 2 c c1 c2).bind fun r30 =>
    ((M.spec_l1Below 16 r30.snd.fst r30.snd.snd.fst r30.snd.snd.snd).bind fun r31 =>
     (bif r31.fst == 0 then
      ((M.spec_l7Leaf r31.snd.fst r31.snd.snd.fst r31.snd.snd.snd).bind fun r32 => (k ((r32.fst, r32.snd.fst, r32.snd.snd.fst, r32.snd.snd.snd)))) else
      (bif r31.fst == 1 then
       ((rec_spec_l7Lvalue deep r31.snd.fst r31.snd.snd.fst r31.snd.snd.snd).bind fun r58 => (k ((r58.fst, r58.snd.fst, r58.snd.snd.fst, r58.snd.snd.snd)))) else
       (bif r31.fst == 2 then
        ((rec_spec_l7Expr (IntKind.i64.wrap (deep - 1)) r31.snd.fst r31.snd.snd.fst r31.snd.snd.snd).bind fun r59 =>
         ((M.spec_l6Make 6 0 [] [] [] (fzRows [[D.sl true 5 r59.fst]])).bind fun r60 =>
          (bif [[D.sl true 5 r60]].all pureRow then (k ((r60, r59.snd.fst, r59.snd.snd.fst, r59.snd.snd.snd))) else none))) else
        (bif r31.fst == 3 then
         ((M.spec_l2Word r31.snd.fst r31.snd.snd.fst r31.snd.snd.snd).bind fun r61 =>
          ((rec_spec_l7List 0 3 (IntKind.i64.wrap (deep - 1)) r61.snd.fst r61.snd.snd.fst r61.snd.snd.snd).bind fun r65 =>
           ((M.spec_l6Make 7 0 r61.fst [] [] (fzRows r65.fst)).bind fun r66 =>
            (bif [[D.sl true 5 r66]].all pureRow then (k ((r66, r65.snd.fst, r65.snd.snd.fst, r65.snd.snd.snd))) else none)))) else
         (bif r31.fst == 4 then
          ((M.spec_l1Pick ([[D.str [108, 101, 110, 103, 116, 104]], [D.str [115, 117, 98, 115, 116, 114]], [D.str [105, 110, 100, 101, 120]], [D.str [105, 110, 116]], [D.str [116, 111, 117, 112, 112, 101, 114]]]) r31.snd.fst r31.snd.snd.fst r31.snd.snd.snd).bind fun r67 =>
           ((rec_spec_l7List 0 3 (IntKind.i64.wrap (deep - 2)) r67.snd.fst r67.snd.snd.fst r67.snd.snd.snd).bind fun r68 =>
            ((M.spec_l6Make 8 0 r67.fst [] [] (fzRows r68.fst)).bind fun r69 =>
             (bif [[D.sl true 5 r69]].all pureRow then (k ((r69, r68.snd.fst, r68.snd.snd.fst, r68.snd.snd.snd))) else none)))) else
          (bif r31.fst == 5 then
           ((rec_spec_l7Lvalue (IntKind.i64.wrap (deep - 1)) r31.snd.fst r31.snd.snd.fst r31.snd.snd.snd).bind fun r70 =>
            ((M.spec_l6Make 9 (IntKind.i64.wrap (51 + r30.fst)) [] [] [] (fzRows [[D.sl true 5 r70.fst]])).bind fun r71 =>
             (bif [[D.sl true 5 r71]].all pureRow then (k ((r71, r70.snd.fst, r70.snd.snd.fst, r70.snd.snd.snd))) else none))) else
           (bif r31.fst == 6 then
            ((rec_spec_l7Lvalue (IntKind.i64.wrap (deep - 1)) r31.snd.fst r31.snd.snd.fst r31.snd.snd.snd).bind fun r72 =>
             ((M.spec_l6Make 10 (IntKind.i64.wrap (51 + r30.fst)) [] [] [] (fzRows [[D.sl true 5 r72.fst]])).bind fun r73 =>
              (bif [[D.sl true 5 r73]].all pureRow then (k ((r73, r72.snd.fst, r72.snd.snd.fst, r72.snd.snd.snd))) else none))) else
            (bif r31.fst == 7 then
             ((M.spec_l1PickInt ([[D.int IntKind.i64 56], [D.int IntKind.i64 55], [D.int IntKind.i64 61]]) r31.snd.fst r31.snd.snd.fst r31.snd.snd.snd).bind fun r77 =>
              ((rec_spec_l7Expr (IntKind.i64.wrap (deep - 1)) r77.snd.fst r77.snd.snd.fst r77.snd.snd.snd).bind fun r78 =>
               ((M.spec_l6Make 11 r77.fst [] [] [] (fzRows [[D.sl true 5 r78.fst]])).bind fun r79 =>
                (bif [[D.sl true 5 r79]].all pureRow then (k ((r79, r78.snd.fst, r78.snd.snd.fst, r78.snd.snd.snd))) else none)))) else
             (bif r31.fst == 8 then
              ((M.spec_l1PickInt ([[D.int IntKind.i64 56], [D.int IntKind.i64 55], [D.int IntKind.i64 61]]) r31.snd.fst r31.snd.snd.fst r31.snd.snd.snd).bind fun r80 =>
               ((rec_spec_l7Expr (IntKind.i64.wrap (deep - 1)) r80.snd.fst r80.snd.snd.fst r80.snd.snd.snd).bind fun r81 =>
                ((M.spec_l6Make 11 r80.fst [] [] [] (fzRows [[D.sl true 5 r81.fst]])).bind fun r82 =>
                 (bif [[D.sl true 5 r82]].all pureRow then (k ((r82, r81.snd.fst, r81.snd.snd.fst, r81.snd.snd.snd))) else none)))) else
              (bif r31.fst == 9 then
               ((M.spec_l2Word r31.snd.fst r31.snd.snd.fst r31.snd.snd.snd).bind fun r83 =>
                ((rec_spec_l7List 1 2 (IntKind.i64.wrap (deep - 1)) r83.snd.fst r83.snd.snd.fst r83.snd.snd.snd).bind fun r84 =>
                 ((M.spec_l6Make 13 0 r83.fst [] [] (fzRows r84.fst)).bind fun r85 =>
                  (bif [[D.sl true 5 r85]].all pureRow then (k ((r85, r84.snd.fst, r84.snd.snd.fst, r84.snd.snd.snd))) else none)))) else
               (bif r31.fst == 10 then
                ((rec_spec_l7Expr (IntKind.i64.wrap (deep - 1)) r31.snd.fst r31.snd.snd.fst r31.snd.snd.snd).bind fun r86 =>
                 ((rec_spec_l7Expr (IntKind.i64.wrap (deep - 1)) r86.snd.fst r86.snd.snd.fst r86.snd.snd.snd).bind fun r87 =>
                  ((rec_spec_l7Expr (IntKind.i64.wrap (deep - 1)) r87.snd.fst r87.snd.snd.fst r87.snd.snd.snd).bind fun r88 =>
                   ((M.spec_l6Make 14 0 [] [] [] (fzRows [[D.sl true 5 r86.fst], [D.sl true 5 r87.fst], [D.sl true 5 r88.fst]])).bind fun r89 =>
                    (bif [[D.sl true 5 r89]].all pureRow then (k ((r89, r88.snd.fst, r88.snd.snd.fst, r88.snd.snd.snd))) else none))))) else
                (bif r31.fst == 11 then
                 ((M.spec_l1PickInt ([[D.int IntKind.i64 54], [D.int IntKind.i64 38], [D.int IntKind.i64 43]]) r31.snd.fst r31.snd.snd.fst r31.snd.snd.snd).bind fun r90 =>
                  ((rec_spec_l7Lvalue (IntKind.i64.wrap (deep - 1)) r90.snd.fst r90.snd.snd.fst r90.snd.snd.snd).bind fun r91 =>
                   ((rec_spec_l7Expr (IntKind.i64.wrap (deep - 1)) r91.snd.fst r91.snd.snd.fst r91.snd.snd.snd).bind fun r92 =>
                    ((M.spec_l6Make 15 r90.fst [] [] [] (fzRows [[D.sl true 5 r91.fst], [D.sl true 5 r92.fst]])).bind fun r93 =>
                     (bif [[D.sl true 5 r93]].all pureRow then (k ((r93, r92.snd.fst, r92.snd.snd.fst, r92.snd.snd.snd))) else none))))) else
                 ((M.spec_l7BinOp r31.snd.fst r31.snd.snd.fst r31.snd.snd.snd).bind fun r95 =>
                  ((rec_spec_l7Expr (IntKind.i64.wrap (deep - 1)) r95.snd.fst r95.snd.snd.fst r95.snd.snd.snd).bind fun r96 =>
                   ((rec_spec_l7Expr (IntKind.i64.wrap (deep - 1)) r96.snd.fst r96.snd.snd.fst r96.snd.snd.snd).bind fun r97 =>
                    ((M.spec_l6Make 12 r95.fst [] [] [] (fzRows [[D.sl true 5 r96.fst], [D.sl true 5 r97.fst]])).bind fun r98 =>
                     (bif [[D.sl true 5 r98]].all pureRow then (k ((r98, r97.snd.fst, r97.snd.snd.fst, r97.snd.snd.snd))) else none)))))))))))))))))))
theorem C.spec_l7Expr_r1 {rec_spec_l7Lvalue : Int → List Row → Int → Int → Option (List Row × List Row × Int × Int)} {rec_spec_l7Expr : Int → List Row → Int → Int → Option (List Row × List Row × Int × Int)} {rec_spec_l7List : Int → Int → Int → List Row → Int → Int → Option (List Row × List Row × Int × Int)} (h_spec_l7Lvalue : S.spec_l7Lvalue.ok X0 fun x => rec_spec_l7Lvalue x.1.2.1 x.2.1.1 x.2.1.2.1 x.2.1.2.2.1) (h_spec_l7Expr : S.spec_l7Expr.ok X0 fun x => rec_spec_l7Expr x.1.2.1 x.2.1.1 x.2.1.2.1 x.2.1.2.2.1) (h_spec_l7List : S.spec_l7List.ok X0 fun x => rec_spec_l7List x.1.2.1 x.1.2.2.1 x.1.2.2.2.1 x.2.1.1 x.2.1.2.1 x.2.1.2.2.1) : S.spec_l7Expr.ok X0 fun x => M.spec_l7Expr_C rec_spec_l7Lvalue rec_spec_l7Expr rec_spec_l7List x.1.2.1 x.2.1.1 x.2.1.2.1 x.2.1.2.2.1 some := fnS (fun x => M.spec_l7Expr_C rec_spec_l7Lvalue rec_spec_l7Expr rec_spec_l7List x.1.2.1 x.2.1.1 x.2.1.2.1 x.2.1.2.2.1) [fe C.spec_l7Leaf, fe C.spec_l1Below, fe h_spec_l7Lvalue, fe h_spec_l7Expr, fe C.spec_l6Make, fe C.spec_l2Word, fe h_spec_l7List, fe C.spec_l1Pick, fe C.spec_l1PickInt, fe C.spec_l7BinOp] [] (by intros; simp only [M.spec_l7Expr_C, nb] <;> rfl)
def M.spec_l7Expr_Z : Nat → (Int → List Row → Int → Int → Option (List Row × List Row × Int × Int)) × (Int → List Row → Int → Int → Option (List Row × List Row × Int × Int)) × (Int → Int → Int → List Row → Int → Int → Option (List Row × List Row × Int × Int)) :=
  Nat.rec (fun _ _ _ _ => none, fun _ _ _ _ => none, fun _ _ _ _ _ _ => none) fun _ qz => (fun deep c c1 c2 => M.spec_l7Expr_C qz.2.1 qz.1 qz.2.2 deep c c1 c2 some, fun deep c c1 c2 => M.spec_l7Lvalue_C qz.1 deep c c1 c2 some, fun least most deep c c1 c2 => M.spec_l7List_C qz.1 least most deep c c1 c2 some)
def M.spec_l7Expr_N (n : Nat) : Int → List Row → Int → Int → Option (List Row × List Row × Int × Int) := (M.spec_l7Expr_Z n).1
def M.spec_l7Lvalue_N (n : Nat) : Int → List Row → Int → Int → Option (List Row × List Row × Int × Int) := (M.spec_l7Expr_Z n).2.1
def M.spec_l7List_N (n : Nat) : Int → Int → Int → List Row → Int → Int → Option (List Row × List Row × Int × Int) := (M.spec_l7Expr_Z n).2.2
theorem M.spec_l7Expr_s (n : Nat) : M.spec_l7Expr_N (n + 1) = fun deep c c1 c2 => M.spec_l7Expr_C (M.spec_l7Lvalue_N n) (M.spec_l7Expr_N n) (M.spec_l7List_N n) deep c c1 c2 some := rfl
theorem M.spec_l7Lvalue_s (n : Nat) : M.spec_l7Lvalue_N (n + 1) = fun deep c c1 c2 => M.spec_l7Lvalue_C (M.spec_l7Expr_N n) deep c c1 c2 some := rfl
theorem M.spec_l7List_s (n : Nat) : M.spec_l7List_N (n + 1) = fun least most deep c c1 c2 => M.spec_l7List_C (M.spec_l7Expr_N n) least most deep c c1 c2 some := rfl
def M.spec_l7Expr (deep : Int) (c : List Row) (c1 : Int) (c2 : Int) : Option (List Row × List Row × Int × Int) := lim fun n => M.spec_l7Expr_N n deep c c1 c2
def M.spec_l7Lvalue (deep : Int) (c : List Row) (c1 : Int) (c2 : Int) : Option (List Row × List Row × Int × Int) := lim fun n => M.spec_l7Lvalue_N n deep c c1 c2
def M.spec_l7List (least : Int) (most : Int) (deep : Int) (c : List Row) (c1 : Int) (c2 : Int) : Option (List Row × List Row × Int × Int) := lim fun n => M.spec_l7List_N n least most deep c c1 c2
theorem C.spec_l7Expr_Z : ∀ n, (S.spec_l7Expr.ok X0 fun x => M.spec_l7Expr_N n x.1.2.1 x.2.1.1 x.2.1.2.1 x.2.1.2.2.1) ∧ (S.spec_l7Lvalue.ok X0 fun x => M.spec_l7Lvalue_N n x.1.2.1 x.2.1.1 x.2.1.2.1 x.2.1.2.2.1) ∧ (S.spec_l7List.ok X0 fun x => M.spec_l7List_N n x.1.2.1 x.1.2.2.1 x.1.2.2.2.1 x.2.1.1 x.2.1.2.1 x.2.1.2.2.1)
  | 0 => ⟨Sig.zero, Sig.zero, Sig.zero⟩
  | n + 1 => have h := C.spec_l7Expr_Z n; ⟨C.spec_l7Expr_r1 h.2.1 h.1 h.2.2, C.spec_l7Lvalue_r1 h.1, C.spec_l7List_r1 h.1⟩
theorem C.spec_l7Expr : S.spec_l7Expr.ok X0 fun x => M.spec_l7Expr x.1.2.1 x.2.1.1 x.2.1.2.1 x.2.1.2.2.1 := Sig.lim fun n => (C.spec_l7Expr_Z n).1
theorem M.spec_l7Expr_of {n : Nat} {deep : Int} {c : List Row} {c1 : Int} {c2 : Int} {r : List Row × List Row × Int × Int} (h : M.spec_l7Expr_N n deep c c1 c2 = some r) : M.spec_l7Expr deep c c1 c2 = some r :=
  Sig.lim_of (fun n => (C.spec_l7Expr_Z n).1) (by intro a b h; simp [S.spec_l7Expr, sg] at h; first | exact h | simp [Prod.ext_iff, h]) (x := (((), deep, ()), ((c, c1, c2, ()), ()))) h
theorem C.spec_l7Lvalue : S.spec_l7Lvalue.ok X0 fun x => M.spec_l7Lvalue x.1.2.1 x.2.1.1 x.2.1.2.1 x.2.1.2.2.1 := Sig.lim fun n => (C.spec_l7Expr_Z n).2.1
theorem C.spec_l7List : S.spec_l7List.ok X0 fun x => M.spec_l7List x.1.2.1 x.1.2.2.1 x.1.2.2.2.1 x.2.1.1 x.2.1.2.1 x.2.1.2.2.1 := Sig.lim fun n => (C.spec_l7Expr_Z n).2.2
theorem M.spec_l7List_of {n : Nat} {least : Int} {most : Int} {deep : Int} {c : List Row} {c1 : Int} {c2 : Int} {r : List Row × List Row × Int × Int} (h : M.spec_l7List_N n least most deep c c1 c2 = some r) : M.spec_l7List least most deep c c1 c2 = some r :=
  Sig.lim_of (fun n => (C.spec_l7Expr_Z n).2.2) (by intro a b h; simp [S.spec_l7List, sg] at h; first | exact h | simp [Prod.ext_iff, h]) (x := (((), least, most, deep, ()), ((c, c1, c2, ()), ()))) h
def M.spec_l7Some_l1_C {R : Type} (s : (List Row × Int × Int) ⊕ (Bool × List Row × Int × Int × List Row)) (kn : (List Row × Int × Int) ⊕ (Bool × List Row × Int × Int × List Row) → Option R) (ke : List Row × Int × Int × List Row → Option R) : Option R := match s with
  | .inl ((v, v1, v2)) =>
    (M.spec_l1Below 4 v v1 v2).bind fun r13 =>
     ((M.spec_l7Expr (IntKind.i64.wrap (1 + r13.fst)) r13.snd.fst r13.snd.snd.fst r13.snd.snd.snd).bind fun r99 =>
      (bif decide ((↑r99.fst.length : Int) ≤ 60) then (ke ((r99.snd.fst, r99.snd.snd.fst, r99.snd.snd.snd, r99.fst))) else (kn (.inr ((false, r99.snd.fst, r99.snd.snd.fst, r99.snd.snd.snd, r99.fst))))))
  | .inr ((v11, v, v1, v2, x')) =>
    (M.spec_l1Below 4 v v1 v2).bind fun r100 =>
     ((M.spec_l7Expr (IntKind.i64.wrap (1 + r100.fst)) r100.snd.fst r100.snd.snd.fst r100.snd.snd.snd).bind fun r101 =>
      (bif decide ((↑r101.fst.length : Int) ≤ 60) then (ke ((r101.snd.fst, r101.snd.snd.fst, r101.snd.snd.snd, r101.fst))) else (kn (.inr ((false, r101.snd.fst, r101.snd.snd.fst, r101.snd.snd.snd, r101.fst))))))
def M.spec_l7Some_l1_b (s : (List Row × Int × Int) ⊕ (Bool × List Row × Int × Int × List Row)) := M.spec_l7Some_l1_C s (fun s => some (Sum.inl s)) fun t => some (Sum.inr t)
def M.spec_l7Some_l1 (s : (List Row × Int × Int) ⊕ (Bool × List Row × Int × Int × List Row)) : Option (List Row × Int × Int × List Row) := loopM (M.spec_l7Some_l1_b) s
def F.spec_l7Some_l1 : LE X0 39 := le 1 (pOr (pSt [pAt 0 (pP 100000 0)] [pAt 100000 (cB 56 [pL false 1, pI, pI])]) (pSt [pAt 0 (pP 100000 0), pAt 3 (pO 300000 0), pAt 11 pB] [pAt 100000 (cB 56 [pL false 1, pI, pI]), pAt 300000 (cA false false 0 5)])) (σ := (List Row × Int × Int) ⊕ (Bool × List Row × Int × Int × List Row)) (fun x => (match x with | .inl x => .inl ((x.2.1.1, x.2.1.2.1, x.2.1.2.2.1)) | .inr x => .inr ((x.1.2.2.1, x.2.1.1, x.2.1.2.1, x.2.1.2.2.1, x.2.2.1)))) (fun x s => (match s with | .inl s => .inl ((((), ()), ((s.1, s.2.1, s.2.2, ()), ()))) | .inr s => .inr ((((), (), s.1, ()), ((s.2.1, s.2.2.1, s.2.2.2.1, ()), s.2.2.2.2, ()))))) (fun x => .leaf (List Row × Int × Int × List Row) (fun t => (Ex.ret, { tm := [(2, V.own 300000 0)], mem := [(100000, Cell.box 56 [V.d (D.sl false 1 t.fst), V.d (D.int IntKind.i64 t.snd.fst), V.d (D.int IntKind.i64 t.snd.snd.fst)]), (300000, Cell.arr false false 0 5 t.snd.snd.snd)] }))) (fun x => M.spec_l7Some_l1_C) [fe C.spec_l1Below, fe C.spec_l7Expr] [] (by rintro _ _ (⟨_, _, _⟩ | ⟨_, _, _, _, _⟩) _ _ <;> unfold M.spec_l7Some_l1_C <;> repeat' first | with_reducible apply nbif | with_reducible apply nbb | with_reducible apply nbo | with_reducible apply nbs | with_reducible apply nbl | (intro _) | apply nbif | rfl) (hE := by intro _ _ s _; rcases s with s | s <;> kernel_rfl)
def M.spec_l7Some_C {R : Type} (c : List Row) (c1 : Int) (c2 : Int) (k : List Row × List Row × Int × Int → Option R) : Option R :=
  (M.spec_l7Some_l1 (.inl ((c, c1, c2)))).bind fun t102 => (k ((t102.snd.snd.snd, t102.fst, t102.snd.fst, t102.snd.snd.fst)))
def M.spec_l7Some (c : List Row) (c1 : Int) (c2 : Int) : Option (List Row × List Row × Int × Int) := M.spec_l7Some_C c c1 c2 some
theorem C.spec_l7Some : S.spec_l7Some.ok X0 fun x => M.spec_l7Some x.2.1.1 x.2.1.2.1 x.2.1.2.2.1 := fnS (fun x => M.spec_l7Some_C x.2.1.1 x.2.1.2.1 x.2.1.2.2.1) [] [F.spec_l7Some_l1] (by intros; simp only [M.spec_l7Some_C, nb] <;> rfl)
def M.spec_l7Simple_C {R : Type} (deep : Int) (c : List Row) (c1 : Int) (c2 : Int) (k : List Row × List Row × Int × Int → Option R) : Option R :=
  (M.spec_l1Below 9 c c1 c2).bind fun r105 =>
   (bif r105.fst == 0 then
    ((M.spec_l1Below 2 r105.snd.fst r105.snd.snd.fst r105.snd.snd.snd).bind fun r106 =>
     ((M.spec_l7List r106.fst 3 deep r106.snd.fst r106.snd.snd.fst r106.snd.snd.snd).bind fun r107 =>
      ((M.spec_l1Once 3 r107.snd.fst r107.snd.snd.fst r107.snd.snd.snd).bind fun r108 =>
       (bif r108.fst then
        ((M.spec_l1Pick ([[D.str [62]], [D.str [62, 62]], [D.str [124]]]) r108.snd.fst r108.snd.snd.fst r108.snd.snd.snd).bind fun r109 =>
         ((M.spec_l7Expr (IntKind.i64.wrap (deep - 1)) r109.snd.fst r109.snd.snd.fst r109.snd.snd.snd).bind fun r110 =>
          (bif ((r107.fst.length + [[D.sl true 5 r110.fst]].length) * 24).ble 140737488355328 then
           (bif (r107.fst.length + [[D.sl true 5 r110.fst]].length).ble 140737488355328 then
            ((M.spec_l6Make 21 r106.fst [] r109.fst [] (fzRows (r107.fst ++ [[D.sl true 5 r110.fst]]))).bind fun r111 =>
             (bif [[D.sl true 5 r111]].all pureRow then (k ((r111, r110.snd.fst, r110.snd.snd.fst, r110.snd.snd.snd))) else none)) else none) else none))) else
        ((M.spec_l6Make 21 r106.fst [] [] [] (fzRows r107.fst)).bind fun r112 =>
         (bif [[D.sl true 5 r112]].all pureRow then (k ((r112, r108.snd.fst, r108.snd.snd.fst, r108.snd.snd.snd))) else none)))))) else
    (bif r105.fst == 1 then
     ((M.spec_l1Below 2 r105.snd.fst r105.snd.snd.fst r105.snd.snd.snd).bind fun r113 =>
      ((M.spec_l7List r113.fst 3 deep r113.snd.fst r113.snd.snd.fst r113.snd.snd.snd).bind fun r114 =>
       ((M.spec_l1Once 3 r114.snd.fst r114.snd.snd.fst r114.snd.snd.snd).bind fun r115 =>
        (bif r115.fst then
         ((M.spec_l1Pick ([[D.str [62]], [D.str [62, 62]], [D.str [124]]]) r115.snd.fst r115.snd.snd.fst r115.snd.snd.snd).bind fun r116 =>
          ((M.spec_l7Expr (IntKind.i64.wrap (deep - 1)) r116.snd.fst r116.snd.snd.fst r116.snd.snd.snd).bind fun r117 =>
           (bif ((r114.fst.length + [[D.sl true 5 r117.fst]].length) * 24).ble 140737488355328 then
            (bif (r114.fst.length + [[D.sl true 5 r117.fst]].length).ble 140737488355328 then
             ((M.spec_l6Make 21 r113.fst [] r116.fst [] (fzRows (r114.fst ++ [[D.sl true 5 r117.fst]]))).bind fun r118 =>
              (bif [[D.sl true 5 r118]].all pureRow then (k ((r118, r117.snd.fst, r117.snd.snd.fst, r117.snd.snd.snd))) else none)) else none) else none))) else
         ((M.spec_l6Make 21 r113.fst [] [] [] (fzRows r114.fst)).bind fun r119 =>
          (bif [[D.sl true 5 r119]].all pureRow then (k ((r119, r115.snd.fst, r115.snd.snd.fst, r115.snd.snd.snd))) else none)))))) else
     (bif r105.fst == 2 then
      ((M.spec_l1PickInt ([[D.int IntKind.i64 22], [D.int IntKind.i64 25], [D.int IntKind.i64 26]]) r105.snd.fst r105.snd.snd.fst r105.snd.snd.snd).bind fun r120 =>
       (k (([[D.int IntKind.i64 r120.fst, D.int IntKind.i64 0, D.str [], D.str [], D.sl true 1 []]], r120.snd.fst, r120.snd.snd.fst, r120.snd.snd.snd)))) else
      (bif r105.fst == 3 then
       ((M.spec_l1PickInt ([[D.int IntKind.i64 23], [D.int IntKind.i64 24]]) r105.snd.fst r105.snd.snd.fst r105.snd.snd.snd).bind fun r121 =>
        ((M.spec_l7List 0 1 deep r121.snd.fst r121.snd.snd.fst r121.snd.snd.snd).bind fun r122 =>
         ((M.spec_l6Make r121.fst 0 [] [] [] (fzRows r122.fst)).bind fun r123 =>
          (bif [[D.sl true 5 r123]].all pureRow then (k ((r123, r122.snd.fst, r122.snd.snd.fst, r122.snd.snd.snd))) else none)))) else
       (bif r105.fst == 4 then
        ((M.spec_l2Word r105.snd.fst r105.snd.snd.fst r105.snd.snd.snd).bind fun r124 =>
         ((M.spec_l7List 0 2 (IntKind.i64.wrap (deep - 1)) r124.snd.fst r124.snd.snd.fst r124.snd.snd.snd).bind fun r125 =>
          ((M.spec_l6Make 27 0 r124.fst [] [] (fzRows r125.fst)).bind fun r126 =>
           (bif [[D.sl true 5 r126]].all pureRow then (k ((r126, r125.snd.fst, r125.snd.snd.fst, r125.snd.snd.snd))) else none)))) else
        (bif r105.fst == 5 then
         ((M.spec_l1Once 2 r105.snd.fst r105.snd.snd.fst r105.snd.snd.snd).bind fun r127 =>
          (bif r127.fst then
           ((M.spec_l1Pick ([[D.str [35]], [D.str [35, 32, 110, 111, 116, 101]], [D.str [35, 120, 32, 61, 32, 49]]]) r127.snd.fst r127.snd.snd.fst r127.snd.snd.snd).bind fun r128 =>
            (k (([[D.int IntKind.i64 34, D.int IntKind.i64 0, D.str r128.fst, D.str [], D.sl true 1 []]], r128.snd.fst, r128.snd.snd.fst, r128.snd.snd.snd)))) else
           ((M.spec_l7Expr deep r127.snd.fst r127.snd.snd.fst r127.snd.snd.snd).bind fun r129 =>
            ((M.spec_l6Make 20 0 [] [] [] (fzRows [[D.sl true 5 r129.fst]])).bind fun r130 =>
             (bif [[D.sl true 5 r130]].all pureRow then (k ((r130, r129.snd.fst, r129.snd.snd.fst, r129.snd.snd.snd))) else none))))) else
         ((M.spec_l7Expr deep r105.snd.fst r105.snd.snd.fst r105.snd.snd.snd).bind fun r131 =>
          ((M.spec_l6Make 20 0 [] [] [] (fzRows [[D.sl true 5 r131.fst]])).bind fun r132 =>
           (bif [[D.sl true 5 r132]].all pureRow then (k ((r132, r131.snd.fst, r131.snd.snd.fst, r131.snd.snd.snd))) else none)))))))))
def M.spec_l7Simple (deep : Int) (c : List Row) (c1 : Int) (c2 : Int) : Option (List Row × List Row × Int × Int) := M.spec_l7Simple_C deep c c1 c2 some
theorem C.spec_l7Simple : S.spec_l7Simple.ok X0 fun x => M.spec_l7Simple x.1.2.1 x.2.1.1 x.2.1.2.1 x.2.1.2.2.1 := fnS (fun x => M.spec_l7Simple_C x.1.2.1 x.2.1.1 x.2.1.2.1 x.2.1.2.2.1) [fe C.spec_l1Below, fe C.spec_l7List, fe C.spec_l1Once, fe C.spec_l1Pick, fe C.spec_l7Expr, fe C.spec_l6Make, fe C.spec_l1PickInt, fe C.spec_l2Word] [] (by intros; simp only [M.spec_l7Simple_C, nb] <;> rfl)
def M.spec_l7Block_l3_C {R : Type} (rec_spec_l7Stmt : Int → List Row → Int → Int → Option (List Row × List Row × Int × Int)) (deep : Int) (s : Int × List Row × Int × Int × List Row) (kn : Int × List Row × Int × Int × List Row → Option R) (ke : Int × List Row × Int × Int × List Row → Option R) : Option R := match s with
  | (n', v, v1, v2, x') =>
    bif decide (n' > 0) then
     ((rec_spec_l7Stmt deep v v1 v2).bind fun r139 =>
      (bif ((x'.length + [[D.sl true 5 r139.fst]].length) * 24).ble 140737488355328 then
       (bif (x'.length + [[D.sl true 5 r139.fst]].length).ble 140737488355328 then
        (kn ((IntKind.i64.wrap (n' - 1), r139.snd.fst, r139.snd.snd.fst, r139.snd.snd.snd, x' ++ [[D.sl true 5 r139.fst]]))) else none) else none)) else (ke ((n', v, v1, v2, x')))
def M.spec_l7Block_l3_b (rec_spec_l7Stmt : Int → List Row → Int → Int → Option (List Row × List Row × Int × Int)) (deep : Int) (s : Int × List Row × Int × Int × List Row) := M.spec_l7Block_l3_C rec_spec_l7Stmt deep s (fun s => some (Sum.inl s)) fun t => some (Sum.inr t)
def M.spec_l7Block_l3 (rec_spec_l7Stmt : Int → List Row → Int → Int → Option (List Row × List Row × Int × Int)) (deep : Int) (s : Int × List Row × Int × Int × List Row) : Option (Int × List Row × Int × Int × List Row) := loopM (M.spec_l7Block_l3_b rec_spec_l7Stmt deep) s
def F.spec_l7Block_l3 {rec_spec_l7Stmt : Int → List Row → Int → Int → Option (List Row × List Row × Int × Int)} (h_spec_l7Stmt : S.spec_l7Stmt.ok X0 fun x => rec_spec_l7Stmt x.1.2.1 x.2.1.1 x.2.1.2.1 x.2.1.2.2.1) : LE X0 46 := le 3 (pSt [pAt 0 (pP 100000 0), pAt 1 pI, pAt 5 (pO 300000 0), pAt 6 pI] [pAt 100000 (cB 56 [pL false 1, pI, pI]), pAt 300000 (cA false false 0 1)]) (fun x => (x.1.2.2.2.1, x.2.1.1, x.2.1.2.1, x.2.1.2.2.1, x.2.2.1)) (fun x s => (((), x.1.2.1, (), s.1, ()), ((s.2.1, s.2.2.1, s.2.2.2.1, ()), s.2.2.2.2, ()))) (fun x => .leaf (Int × List Row × Int × Int × List Row) (fun t => (Ex.exit 0, { tm := [(0, V.ptr 100000 0), (1, V.d (D.int IntKind.i64 x.1.2.1)), (5, V.own 300000 0), (6, V.d (D.int IntKind.i64 t.fst)), (11, V.d (D.bool false))], mem := [(100000, Cell.box 56 [V.d (D.sl false 1 t.snd.fst), V.d (D.int IntKind.i64 t.snd.snd.fst), V.d (D.int IntKind.i64 t.snd.snd.snd.fst)]), (300000, Cell.arr false false 0 1 t.snd.snd.snd.snd)] }))) (fun x => M.spec_l7Block_l3_C rec_spec_l7Stmt x.1.2.1) [fe h_spec_l7Stmt] [] (by rintro _ _ ⟨_, _, _, _, _⟩ _ _ <;> simp only [M.spec_l7Block_l3_C, nb] <;> rfl)
def M.spec_l7Block_C {R : Type} (rec_spec_l7Stmt : Int → List Row → Int → Int → Option (List Row × List Row × Int × Int)) (deep : Int) (c : List Row) (c1 : Int) (c2 : Int) (k : List Row × List Row × Int × Int → Option R) : Option R :=
  (M.spec_l1Below 3 c c1 c2).bind fun r138 =>
   ((M.spec_l7Block_l3 rec_spec_l7Stmt deep ((r138.fst, r138.snd.fst, r138.snd.snd.fst, r138.snd.snd.snd, []))).bind fun t140 =>
    ((M.spec_l6Make 33 0 [] [] [] (fzRows t140.snd.snd.snd.snd)).bind fun r141 =>
     (bif [[D.sl true 5 r141]].all pureRow then (k ((r141, t140.snd.fst, t140.snd.snd.fst, t140.snd.snd.snd.fst))) else none)))
theorem C.spec_l7Block_r1 {rec_spec_l7Stmt : Int → List Row → Int → Int → Option (List Row × List Row × Int × Int)} (h_spec_l7Stmt : S.spec_l7Stmt.ok X0 fun x => rec_spec_l7Stmt x.1.2.1 x.2.1.1 x.2.1.2.1 x.2.1.2.2.1) : S.spec_l7Block.ok X0 fun x => M.spec_l7Block_C rec_spec_l7Stmt x.1.2.1 x.2.1.1 x.2.1.2.1 x.2.1.2.2.1 some := fnS (fun x => M.spec_l7Block_C rec_spec_l7Stmt x.1.2.1 x.2.1.1 x.2.1.2.1 x.2.1.2.2.1) [fe C.spec_l1Below, fe C.spec_l6Make] [F.spec_l7Block_l3 h_spec_l7Stmt] (by intros; simp only [M.spec_l7Block_C, nb] <;> rfl)
def M.spec_l7Maybe_C {R : Type} (deep : Int) (c : List Row) (c1 : Int) (c2 : Int) (k : List Row × List Row × Int × Int → Option R) : Option R :=
  (M.spec_l1Once 3 c c1 c2).bind fun r154 =>
   (bif r154.fst then
    (k (([[D.int IntKind.i64 16, D.int IntKind.i64 0, D.str [], D.str [], D.sl true 1 []]], r154.snd.fst, r154.snd.snd.fst, r154.snd.snd.snd))) else
    ((M.spec_l7Expr deep r154.snd.fst r154.snd.snd.fst r154.snd.snd.snd).bind fun r155 => (k ((r155.fst, r155.snd.fst, r155.snd.snd.fst, r155.snd.snd.snd)))))
def M.spec_l7Maybe (deep : Int) (c : List Row) (c1 : Int) (c2 : Int) : Option (List Row × List Row × Int × Int) := M.spec_l7Maybe_C deep c c1 c2 some
theorem C.spec_l7Maybe : S.spec_l7Maybe.ok X0 fun x => M.spec_l7Maybe x.1.2.1 x.2.1.1 x.2.1.2.1 x.2.1.2.2.1 := fnS (fun x => M.spec_l7Maybe_C x.1.2.1 x.2.1.1 x.2.1.2.1 x.2.1.2.2.1) [fe C.spec_l1Once, fe C.spec_l7Expr] [] (by intros; simp only [M.spec_l7Maybe_C, nb] <;> rfl)
def M.spec_l7Stmt_C {R : Type} (rec_spec_l7Block : Int → List Row → Int → Int → Option (List Row × List Row × Int × Int)) (deep : Int) (c : List Row) (c1 : Int) (c2 : Int) (k : List Row × List Row × Int × Int → Option R) : Option R :=
  bif decide (deep ≤ 0) then
   ((M.spec_l7Simple (bif decide (2 < deep) then 2 else deep) c c1 c2).bind fun r133 => (k ((r133.fst, r133.snd.fst, r133.snd.snd.fst, r133.snd.snd.snd)))) else
   ((M.spec_l1Once 3 c c1 c2).bind fun r134 =>
    (bif !r134.fst then
     ((M.spec_l7Simple (bif decide (2 < deep) then 2 else deep) r134.snd.fst r134.snd.snd.fst r134.snd.snd.snd).bind fun r135 => (k ((r135.fst, r135.snd.fst, r135.snd.snd.fst, r135.snd.snd.snd)))) else
     ((M.spec_l1Below 6 r134.snd.fst r134.snd.snd.fst r134.snd.snd.snd).bind fun r136 =>
      (bif r136.fst == 0 then
       ((M.spec_l7Expr 1 r136.snd.fst r136.snd.snd.fst r136.snd.snd.snd).bind fun r137 =>
        ((rec_spec_l7Block (IntKind.i64.wrap (deep - 1)) r137.snd.fst r137.snd.snd.fst r137.snd.snd.snd).bind fun r142 =>
         ((M.spec_l6Make 28 0 [] [] [] (fzRows [[D.sl true 5 r137.fst], [D.sl true 5 r142.fst]])).bind fun r143 =>
          (bif [[D.sl true 5 r143]].all pureRow then (k ((r143, r142.snd.fst, r142.snd.snd.fst, r142.snd.snd.snd))) else none)))) else
       (bif r136.fst == 1 then
        ((M.spec_l7Expr 1 r136.snd.fst r136.snd.snd.fst r136.snd.snd.snd).bind fun r144 =>
         ((rec_spec_l7Block (IntKind.i64.wrap (deep - 1)) r144.snd.fst r144.snd.snd.fst r144.snd.snd.snd).bind fun r145 =>
          ((rec_spec_l7Block (IntKind.i64.wrap (deep - 1)) r145.snd.fst r145.snd.snd.fst r145.snd.snd.snd).bind fun r146 =>
           ((M.spec_l6Make 28 0 [] [] [] (fzRows [[D.sl true 5 r144.fst], [D.sl true 5 r145.fst], [D.sl true 5 r146.fst]])).bind fun r147 =>
            (bif [[D.sl true 5 r147]].all pureRow then (k ((r147, r146.snd.fst, r146.snd.snd.fst, r146.snd.snd.snd))) else none))))) else
        (bif r136.fst == 2 then
         ((M.spec_l7Expr 1 r136.snd.fst r136.snd.snd.fst r136.snd.snd.snd).bind fun r148 =>
          ((rec_spec_l7Block (IntKind.i64.wrap (deep - 1)) r148.snd.fst r148.snd.snd.fst r148.snd.snd.snd).bind fun r149 =>
           ((M.spec_l6Make 29 0 [] [] [] (fzRows [[D.sl true 5 r148.fst], [D.sl true 5 r149.fst]])).bind fun r150 =>
            (bif [[D.sl true 5 r150]].all pureRow then (k ((r150, r149.snd.fst, r149.snd.snd.fst, r149.snd.snd.snd))) else none)))) else
         (bif r136.fst == 3 then
          ((rec_spec_l7Block (IntKind.i64.wrap (deep - 1)) r136.snd.fst r136.snd.snd.fst r136.snd.snd.snd).bind fun r151 =>
           ((M.spec_l7Expr 1 r151.snd.fst r151.snd.snd.fst r151.snd.snd.snd).bind fun r152 =>
            ((M.spec_l6Make 30 0 [] [] [] (fzRows [[D.sl true 5 r151.fst], [D.sl true 5 r152.fst]])).bind fun r153 =>
             (bif [[D.sl true 5 r153]].all pureRow then (k ((r153, r152.snd.fst, r152.snd.snd.fst, r152.snd.snd.snd))) else none)))) else
          (bif r136.fst == 4 then
           ((M.spec_l7Maybe 2 r136.snd.fst r136.snd.snd.fst r136.snd.snd.snd).bind fun r156 =>
            ((M.spec_l7Maybe 1 r156.snd.fst r156.snd.snd.fst r156.snd.snd.snd).bind fun r157 =>
             ((M.spec_l7Maybe 1 r157.snd.fst r157.snd.snd.fst r157.snd.snd.snd).bind fun r158 =>
              ((rec_spec_l7Block (IntKind.i64.wrap (deep - 1)) r158.snd.fst r158.snd.snd.fst r158.snd.snd.snd).bind fun r159 =>
               ((M.spec_l6Make 31 0 [] [] [] (fzRows [[D.sl true 5 r156.fst], [D.sl true 5 r157.fst], [D.sl true 5 r158.fst], [D.sl true 5 r159.fst]])).bind fun r160 =>
                (bif [[D.sl true 5 r160]].all pureRow then (k ((r160, r159.snd.fst, r159.snd.snd.fst, r159.snd.snd.snd))) else none)))))) else
           ((M.spec_l1Once 2 r136.snd.fst r136.snd.snd.fst r136.snd.snd.snd).bind fun r161 =>
            (bif r161.fst then
             ((rec_spec_l7Block (IntKind.i64.wrap (deep - 1)) r161.snd.fst r161.snd.snd.fst r161.snd.snd.snd).bind fun r162 => (k ((r162.fst, r162.snd.fst, r162.snd.snd.fst, r162.snd.snd.snd)))) else
             ((M.spec_l2Word r161.snd.fst r161.snd.snd.fst r161.snd.snd.snd).bind fun r163 =>
              ((M.spec_l2Word r163.snd.fst r163.snd.snd.fst r163.snd.snd.snd).bind fun r164 =>
               ((rec_spec_l7Block (IntKind.i64.wrap (deep - 1)) r164.snd.fst r164.snd.snd.fst r164.snd.snd.snd).bind fun r165 =>
                ((M.spec_l6Make 32 0 r163.fst r164.fst [] (fzRows [[D.sl true 5 r165.fst]])).bind fun r166 =>
                 (bif [[D.sl true 5 r166]].all pureRow then (k ((r166, r165.snd.fst, r165.snd.snd.fst, r165.snd.snd.snd))) else none)))))))))))))))
theorem C.spec_l7Stmt_r1 {rec_spec_l7Block : Int → List Row → Int → Int → Option (List Row × List Row × Int × Int)} (h_spec_l7Block : S.spec_l7Block.ok X0 fun x => rec_spec_l7Block x.1.2.1 x.2.1.1 x.2.1.2.1 x.2.1.2.2.1) : S.spec_l7Stmt.ok X0 fun x => M.spec_l7Stmt_C rec_spec_l7Block x.1.2.1 x.2.1.1 x.2.1.2.1 x.2.1.2.2.1 some := fnS (fun x => M.spec_l7Stmt_C rec_spec_l7Block x.1.2.1 x.2.1.1 x.2.1.2.1 x.2.1.2.2.1) [fe C.spec_l7Simple, fe C.spec_l1Once, fe C.spec_l1Below, fe C.spec_l7Expr, fe h_spec_l7Block, fe C.spec_l6Make, fe C.spec_l7Maybe, fe C.spec_l2Word] [] (by intros; simp only [M.spec_l7Stmt_C, nb] <;> rfl)
def M.spec_l7Stmt_Z : Nat → (Int → List Row → Int → Int → Option (List Row × List Row × Int × Int)) × (Int → List Row → Int → Int → Option (List Row × List Row × Int × Int)) :=
  Nat.rec (fun _ _ _ _ => none, fun _ _ _ _ => none) fun _ qz => (fun deep c c1 c2 => M.spec_l7Stmt_C qz.2 deep c c1 c2 some, fun deep c c1 c2 => M.spec_l7Block_C qz.1 deep c c1 c2 some)
def M.spec_l7Stmt_N (n : Nat) : Int → List Row → Int → Int → Option (List Row × List Row × Int × Int) := (M.spec_l7Stmt_Z n).1
def M.spec_l7Block_N (n : Nat) : Int → List Row → Int → Int → Option (List Row × List Row × Int × Int) := (M.spec_l7Stmt_Z n).2
theorem M.spec_l7Stmt_s (n : Nat) : M.spec_l7Stmt_N (n + 1) = fun deep c c1 c2 => M.spec_l7Stmt_C (M.spec_l7Block_N n) deep c c1 c2 some := rfl
theorem M.spec_l7Block_s (n : Nat) : M.spec_l7Block_N (n + 1) = fun deep c c1 c2 => M.spec_l7Block_C (M.spec_l7Stmt_N n) deep c c1 c2 some := rfl
def M.spec_l7Stmt (deep : Int) (c : List Row) (c1 : Int) (c2 : Int) : Option (List Row × List Row × Int × Int) := lim fun n => M.spec_l7Stmt_N n deep c c1 c2
def M.spec_l7Block (deep : Int) (c : List Row) (c1 : Int) (c2 : Int) : Option (List Row × List Row × Int × Int) := lim fun n => M.spec_l7Block_N n deep c c1 c2
theorem C.spec_l7Stmt_Z : ∀ n, (S.spec_l7Stmt.ok X0 fun x => M.spec_l7Stmt_N n x.1.2.1 x.2.1.1 x.2.1.2.1 x.2.1.2.2.1) ∧ (S.spec_l7Block.ok X0 fun x => M.spec_l7Block_N n x.1.2.1 x.2.1.1 x.2.1.2.1 x.2.1.2.2.1)
  | 0 => ⟨Sig.zero, Sig.zero⟩
  | n + 1 => have h := C.spec_l7Stmt_Z n; ⟨C.spec_l7Stmt_r1 h.2, C.spec_l7Block_r1 h.1⟩
theorem C.spec_l7Stmt : S.spec_l7Stmt.ok X0 fun x => M.spec_l7Stmt x.1.2.1 x.2.1.1 x.2.1.2.1 x.2.1.2.2.1 := Sig.lim fun n => (C.spec_l7Stmt_Z n).1
theorem M.spec_l7Stmt_of {n : Nat} {deep : Int} {c : List Row} {c1 : Int} {c2 : Int} {r : List Row × List Row × Int × Int} (h : M.spec_l7Stmt_N n deep c c1 c2 = some r) : M.spec_l7Stmt deep c c1 c2 = some r :=
  Sig.lim_of (fun n => (C.spec_l7Stmt_Z n).1) (by intro a b h; simp [S.spec_l7Stmt, sg] at h; first | exact h | simp [Prod.ext_iff, h]) (x := (((), deep, ()), ((c, c1, c2, ()), ()))) h
theorem C.spec_l7Block : S.spec_l7Block.ok X0 fun x => M.spec_l7Block x.1.2.1 x.2.1.1 x.2.1.2.1 x.2.1.2.2.1 := Sig.lim fun n => (C.spec_l7Stmt_Z n).2
theorem M.spec_l7Block_of {n : Nat} {deep : Int} {c : List Row} {c1 : Int} {c2 : Int} {r : List Row × List Row × Int × Int} (h : M.spec_l7Block_N n deep c c1 c2 = some r) : M.spec_l7Block deep c c1 c2 = some r :=
  Sig.lim_of (fun n => (C.spec_l7Stmt_Z n).2) (by intro a b h; simp [S.spec_l7Block, sg] at h; first | exact h | simp [Prod.ext_iff, h]) (x := (((), deep, ()), ((c, c1, c2, ()), ()))) h
def M.spec_l7Item_l16_C {R : Type} (deep : Int) (s : Int × List Row × Int × Int × List Row) (kn : Int × List Row × Int × Int × List Row → Option R) (ke : Int × List Row × Int × Int × List Row → Option R) : Option R := match s with
  | (n', v, v1, v2, x') =>
    bif decide (n' > 0) then
     ((M.spec_l2Word v v1 v2).bind fun r186 =>
      (bif ((x'.length + [[D.sl true 5 [[D.int IntKind.i64 1, D.int IntKind.i64 0, D.str r186.fst, D.str [], D.sl true 1 []]]]].length) * 24).ble 140737488355328 then
       (bif (x'.length + [[D.sl true 5 [[D.int IntKind.i64 1, D.int IntKind.i64 0, D.str r186.fst, D.str [], D.sl true 1 []]]]].length).ble 140737488355328 then
        (kn ((IntKind.i64.wrap (n' - 1), r186.snd.fst, r186.snd.snd.fst, r186.snd.snd.snd, x' ++ [[D.sl true 5 [[D.int IntKind.i64 1, D.int IntKind.i64 0, D.str r186.fst, D.str [], D.sl true 1 []]]]]))) else none) else none)) else (ke ((n', v, v1, v2, x')))
def M.spec_l7Item_l16_b (deep : Int) (s : Int × List Row × Int × Int × List Row) := M.spec_l7Item_l16_C deep s (fun s => some (Sum.inl s)) fun t => some (Sum.inr t)
def M.spec_l7Item_l16 (deep : Int) (s : Int × List Row × Int × Int × List Row) : Option (Int × List Row × Int × Int × List Row) := loopM (M.spec_l7Item_l16_b deep) s
def F.spec_l7Item_l16 : LE X0 49 := le 16 (pSt [pAt 0 (pP 100000 0), pAt 3 pI, pAt 4 (pO 300000 0), pAt 5 pI] [pAt 100000 (cB 56 [pL false 1, pI, pI]), pAt 300000 (cA false false 0 1)]) (fun x => (x.1.2.2.2.1, x.2.1.1, x.2.1.2.1, x.2.1.2.2.1, x.2.2.1)) (fun x s => (((), x.1.2.1, (), s.1, ()), ((s.2.1, s.2.2.1, s.2.2.2.1, ()), s.2.2.2.2, ()))) (fun x => .leaf (Int × List Row × Int × Int × List Row) (fun t => (Ex.exit 1, { tm := [(0, V.ptr 100000 0), (3, V.d (D.int IntKind.i64 x.1.2.1)), (4, V.own 300000 0), (5, V.d (D.int IntKind.i64 t.fst)), (65, V.d (D.bool false))], mem := [(100000, Cell.box 56 [V.d (D.sl false 1 t.snd.fst), V.d (D.int IntKind.i64 t.snd.snd.fst), V.d (D.int IntKind.i64 t.snd.snd.snd.fst)]), (300000, Cell.arr false false 0 1 t.snd.snd.snd.snd)] }))) (fun x => M.spec_l7Item_l16_C x.1.2.1) [fe C.spec_l2Word] [] (by rintro _ _ ⟨_, _, _, _, _⟩ _ _ <;> simp only [M.spec_l7Item_l16_C, nb] <;> rfl)
def M.spec_l7Item_C {R : Type} (c : List Row) (c1 : Int) (c2 : Int) (k : List Row × List Row × Int × Int → Option R) : Option R :=
  (M.spec_l1Below 2 c c1 c2).bind fun r169 =>
   ((M.spec_l1Below 8 r169.snd.fst r169.snd.snd.fst r169.snd.snd.snd).bind fun r170 =>
    (bif r170.fst == 0 then
     ((M.spec_l1Below 2 r170.snd.fst r170.snd.snd.fst r170.snd.snd.snd).bind fun r171 =>
      ((M.spec_l7Block (IntKind.i64.wrap (1 + r169.fst)) r171.snd.fst r171.snd.snd.fst r171.snd.snd.snd).bind fun r172 =>
       ((M.spec_l6Make (IntKind.i64.wrap (40 + r171.fst)) 0 [] [] [] (fzRows [[D.sl true 5 r172.fst]])).bind fun r173 =>
        (bif [[D.sl true 5 r173]].all pureRow then (k ((r173, r172.snd.fst, r172.snd.snd.fst, r172.snd.snd.snd))) else none)))) else
     (bif r170.fst == 1 then
      ((M.spec_l7Expr (IntKind.i64.wrap (1 + r169.fst)) r170.snd.fst r170.snd.snd.fst r170.snd.snd.snd).bind fun r174 =>
       ((M.spec_l6Make 42 1 [] [] [] (fzRows [[D.sl true 5 r174.fst]])).bind fun r175 =>
        (bif [[D.sl true 5 r175]].all pureRow then (k ((r175, r174.snd.fst, r174.snd.snd.fst, r174.snd.snd.snd))) else none))) else
      (bif r170.fst == 2 then
       ((M.spec_l7Block (IntKind.i64.wrap (1 + r169.fst)) r170.snd.fst r170.snd.snd.fst r170.snd.snd.snd).bind fun r176 =>
        ((M.spec_l6Make 42 2 [] [] [] (fzRows [[D.sl true 5 r176.fst]])).bind fun r177 =>
         (bif [[D.sl true 5 r177]].all pureRow then (k ((r177, r176.snd.fst, r176.snd.snd.fst, r176.snd.snd.snd))) else none))) else
       (bif r170.fst == 3 then
        ((M.spec_l7Expr 1 r170.snd.fst r170.snd.snd.fst r170.snd.snd.snd).bind fun r178 =>
         ((M.spec_l7Expr 1 r178.snd.fst r178.snd.snd.fst r178.snd.snd.snd).bind fun r179 =>
          ((M.spec_l6Make 43 1 [] [] [] (fzRows [[D.sl true 5 r178.fst], [D.sl true 5 r179.fst]])).bind fun r180 =>
           (bif [[D.sl true 5 r180]].all pureRow then (k ((r180, r179.snd.fst, r179.snd.snd.fst, r179.snd.snd.snd))) else none)))) else
        (bif r170.fst == 4 then
         ((M.spec_l7Expr 1 r170.snd.fst r170.snd.snd.fst r170.snd.snd.snd).bind fun r181 =>
          ((M.spec_l7Expr 1 r181.snd.fst r181.snd.snd.fst r181.snd.snd.snd).bind fun r182 =>
           ((M.spec_l7Block (IntKind.i64.wrap (1 + r169.fst)) r182.snd.fst r182.snd.snd.fst r182.snd.snd.snd).bind fun r183 =>
            ((M.spec_l6Make 43 3 [] [] [] (fzRows [[D.sl true 5 r181.fst], [D.sl true 5 r182.fst], [D.sl true 5 r183.fst]])).bind fun r184 =>
             (bif [[D.sl true 5 r184]].all pureRow then (k ((r184, r183.snd.fst, r183.snd.snd.fst, r183.snd.snd.snd))) else none))))) else
         (bif r170.fst == 5 then
          ((M.spec_l1Below 3 r170.snd.fst r170.snd.snd.fst r170.snd.snd.snd).bind fun r185 =>
           ((M.spec_l7Item_l16 (IntKind.i64.wrap (1 + r169.fst)) ((r185.fst, r185.snd.fst, r185.snd.snd.fst, r185.snd.snd.snd, []))).bind fun t187 =>
            ((M.spec_l1Pick ([[D.str [102]], [D.str [103]], [D.str [109, 97, 120]]]) t187.snd.fst t187.snd.snd.fst t187.snd.snd.snd.fst).bind fun r188 =>
             ((M.spec_l7Block (IntKind.i64.wrap (1 + r169.fst)) r188.snd.fst r188.snd.snd.fst r188.snd.snd.snd).bind fun r189 =>
              (bif ((t187.snd.snd.snd.snd.length + [[D.sl true 5 r189.fst]].length) * 24).ble 140737488355328 then
               (bif (t187.snd.snd.snd.snd.length + [[D.sl true 5 r189.fst]].length).ble 140737488355328 then
                ((M.spec_l6Make 44 0 r188.fst [] [] (fzRows (t187.snd.snd.snd.snd ++ [[D.sl true 5 r189.fst]]))).bind fun r190 =>
                 (bif [[D.sl true 5 r190]].all pureRow then (k ((r190, r189.snd.fst, r189.snd.snd.fst, r189.snd.snd.snd))) else none)) else none) else none))))) else
          (bif r170.fst == 6 then
           ((M.spec_l1Pick ([[D.str [35, 32, 116, 111, 112]], [D.str [35]]]) r170.snd.fst r170.snd.snd.fst r170.snd.snd.snd).bind fun r191 =>
            (k (([[D.int IntKind.i64 34, D.int IntKind.i64 0, D.str r191.fst, D.str [], D.sl true 1 []]], r191.snd.fst, r191.snd.snd.fst, r191.snd.snd.snd)))) else
           ((M.spec_l7Expr (IntKind.i64.wrap (1 + r169.fst)) r170.snd.fst r170.snd.snd.fst r170.snd.snd.snd).bind fun r192 =>
            ((M.spec_l7Block (IntKind.i64.wrap (1 + r169.fst)) r192.snd.fst r192.snd.snd.fst r192.snd.snd.snd).bind fun r193 =>
             ((M.spec_l6Make 42 3 [] [] [] (fzRows [[D.sl true 5 r192.fst], [D.sl true 5 r193.fst]])).bind fun r194 =>
              (bif [[D.sl true 5 r194]].all pureRow then (k ((r194, r193.snd.fst, r193.snd.snd.fst, r193.snd.snd.snd))) else none))))))))))))
def M.spec_l7Item (c : List Row) (c1 : Int) (c2 : Int) : Option (List Row × List Row × Int × Int) := M.spec_l7Item_C c c1 c2 some
theorem C.spec_l7Item : S.spec_l7Item.ok X0 fun x => M.spec_l7Item x.2.1.1 x.2.1.2.1 x.2.1.2.2.1 := fnS (fun x => M.spec_l7Item_C x.2.1.1 x.2.1.2.1 x.2.1.2.2.1) [fe C.spec_l1Below, fe C.spec_l7Block, fe C.spec_l6Make, fe C.spec_l7Expr, fe C.spec_l1Pick] [F.spec_l7Item_l16] (by intros; simp only [M.spec_l7Item_C, nb] <;> rfl)
def M.spec_l7Program_l3_C {R : Type} (s : Int × List Row × Int × Int × List Row) (kn : Int × List Row × Int × Int × List Row → Option R) (ke : Int × List Row × Int × Int × List Row → Option R) : Option R := match s with
  | (n', v, v1, v2, x') =>
    bif decide (n' > 0) then
     ((M.spec_l7Item v v1 v2).bind fun r195 =>
      (bif ((x'.length + [[D.sl true 5 r195.fst]].length) * 24).ble 140737488355328 then
       (bif (x'.length + [[D.sl true 5 r195.fst]].length).ble 140737488355328 then
        (kn ((IntKind.i64.wrap (n' - 1), r195.snd.fst, r195.snd.snd.fst, r195.snd.snd.snd, x' ++ [[D.sl true 5 r195.fst]]))) else none) else none)) else (ke ((n', v, v1, v2, x')))
def M.spec_l7Program_l3_b (s : Int × List Row × Int × Int × List Row) := M.spec_l7Program_l3_C s (fun s => some (Sum.inl s)) fun t => some (Sum.inr t)
def M.spec_l7Program_l3 (s : Int × List Row × Int × Int × List Row) : Option (Int × List Row × Int × Int × List Row) := loopM (M.spec_l7Program_l3_b) s
def F.spec_l7Program_l3 : LE X0 41 := le 3 (pSt [pAt 0 (pP 100000 0), pAt 3 (pO 300000 0), pAt 4 pI] [pAt 100000 (cB 56 [pL false 1, pI, pI]), pAt 300000 (cA false false 0 1)]) (fun x => (x.1.2.2.1, x.2.1.1, x.2.1.2.1, x.2.1.2.2.1, x.2.2.1)) (fun x s => (((), (), s.1, ()), ((s.2.1, s.2.2.1, s.2.2.2.1, ()), s.2.2.2.2, ()))) (fun x => .leaf (Int × List Row × Int × Int × List Row) (fun t => (Ex.exit 2, { tm := [(0, V.ptr 100000 0), (3, V.own 300000 0), (4, V.d (D.int IntKind.i64 t.fst)), (10, V.d (D.bool false))], mem := [(100000, Cell.box 56 [V.d (D.sl false 1 t.snd.fst), V.d (D.int IntKind.i64 t.snd.snd.fst), V.d (D.int IntKind.i64 t.snd.snd.snd.fst)]), (300000, Cell.arr false false 0 1 t.snd.snd.snd.snd)] }))) (fun x => M.spec_l7Program_l3_C) [fe C.spec_l7Item] [] (by rintro _ _ ⟨_, _, _, _, _⟩ _ _ <;> simp only [M.spec_l7Program_l3_C, nb] <;> rfl)
def M.spec_l7Program_l1_C {R : Type} (s : (List Row × Int × Int) ⊕ (Bool × List Row × Int × Int × List Row)) (kn : (List Row × Int × Int) ⊕ (Bool × List Row × Int × Int × List Row) → Option R) (ke : List Row × Int × Int × List Row → Option R) : Option R := match s with
  | .inl ((v, v1, v2)) =>
    (M.spec_l1Below 4 v v1 v2).bind fun r168 =>
     ((M.spec_l7Program_l3 ((r168.fst, r168.snd.fst, r168.snd.snd.fst, r168.snd.snd.snd, []))).bind fun t196 =>
      ((M.spec_l6Make 45 0 [] [] [] (fzRows t196.snd.snd.snd.snd)).bind fun r197 =>
       (bif [[D.sl true 5 r197]].all pureRow then
        (bif decide ((↑r197.length : Int) ≤ 220) then (ke ((t196.snd.fst, t196.snd.snd.fst, t196.snd.snd.snd.fst, r197))) else (kn (.inr ((false, t196.snd.fst, t196.snd.snd.fst, t196.snd.snd.snd.fst, r197))))) else none)))
  | .inr ((v23, v, v1, v2, x')) =>
    (M.spec_l1Below 4 v v1 v2).bind fun r198 =>
     ((M.spec_l7Program_l3 ((r198.fst, r198.snd.fst, r198.snd.snd.fst, r198.snd.snd.snd, []))).bind fun t199 =>
      ((M.spec_l6Make 45 0 [] [] [] (fzRows t199.snd.snd.snd.snd)).bind fun r200 =>
       (bif [[D.sl true 5 r200]].all pureRow then
        (bif decide ((↑r200.length : Int) ≤ 220) then (ke ((t199.snd.fst, t199.snd.snd.fst, t199.snd.snd.snd.fst, r200))) else (kn (.inr ((false, t199.snd.fst, t199.snd.snd.fst, t199.snd.snd.snd.fst, r200))))) else none)))
def M.spec_l7Program_l1_b (s : (List Row × Int × Int) ⊕ (Bool × List Row × Int × Int × List Row)) := M.spec_l7Program_l1_C s (fun s => some (Sum.inl s)) fun t => some (Sum.inr t)
def M.spec_l7Program_l1 (s : (List Row × Int × Int) ⊕ (Bool × List Row × Int × Int × List Row)) : Option (List Row × Int × Int × List Row) := loopM (M.spec_l7Program_l1_b) s
def F.spec_l7Program_l1 : LE X0 41 := le 1 (pOr (pSt [pAt 0 (pP 100000 0)] [pAt 100000 (cB 56 [pL false 1, pI, pI])]) (pSt [pAt 0 (pP 100000 0), pAt 5 (pO 300000 0), pAt 23 pB] [pAt 100000 (cB 56 [pL false 1, pI, pI]), pAt 300000 (cA false false 0 5)])) (σ := (List Row × Int × Int) ⊕ (Bool × List Row × Int × Int × List Row)) (fun x => (match x with | .inl x => .inl ((x.2.1.1, x.2.1.2.1, x.2.1.2.2.1)) | .inr x => .inr ((x.1.2.2.1, x.2.1.1, x.2.1.2.1, x.2.1.2.2.1, x.2.2.1)))) (fun x s => (match s with | .inl s => .inl ((((), ()), ((s.1, s.2.1, s.2.2, ()), ()))) | .inr s => .inr ((((), (), s.1, ()), ((s.2.1, s.2.2.1, s.2.2.2.1, ()), s.2.2.2.2, ()))))) (fun x => .leaf (List Row × Int × Int × List Row) (fun t => (Ex.ret, { tm := [(2, V.own 300000 0)], mem := [(100000, Cell.box 56 [V.d (D.sl false 1 t.fst), V.d (D.int IntKind.i64 t.snd.fst), V.d (D.int IntKind.i64 t.snd.snd.fst)]), (300000, Cell.arr false false 0 5 t.snd.snd.snd)] }))) (fun x => M.spec_l7Program_l1_C) [fe C.spec_l1Below, fe C.spec_l6Make] [F.spec_l7Program_l3] (by rintro _ _ (⟨_, _, _⟩ | ⟨_, _, _, _, _⟩) _ _ <;> unfold M.spec_l7Program_l1_C <;> repeat' first | with_reducible apply nbif | with_reducible apply nbb | with_reducible apply nbo | with_reducible apply nbs | with_reducible apply nbl | (intro _) | apply nbif | rfl) (hE := by intro _ _ s _; rcases s with s | s <;> kernel_rfl)
def M.spec_l7Program_C {R : Type} (c : List Row) (c1 : Int) (c2 : Int) (k : List Row × List Row × Int × Int → Option R) : Option R :=
  (M.spec_l7Program_l1 (.inl ((c, c1, c2)))).bind fun t201 => (k ((t201.snd.snd.snd, t201.fst, t201.snd.fst, t201.snd.snd.fst)))
def M.spec_l7Program (c : List Row) (c1 : Int) (c2 : Int) : Option (List Row × List Row × Int × Int) := M.spec_l7Program_C c c1 c2 some
theorem C.spec_l7Program : S.spec_l7Program.ok X0 fun x => M.spec_l7Program x.2.1.1 x.2.1.2.1 x.2.1.2.2.1 := fnS (fun x => M.spec_l7Program_C x.2.1.1 x.2.1.2.1 x.2.1.2.2.1) [] [F.spec_l7Program_l1] (by intros; simp only [M.spec_l7Program_C, nb] <;> rfl)
def M.spec_l7Any_C {R : Type} (c : List Row) (c1 : Int) (c2 : Int) (k : List Row × List Row × Int × Int → Option R) : Option R :=
  (M.spec_l1Below 5 c c1 c2).bind fun r12 =>
   (bif r12.fst == 0 then
    ((M.spec_l7Some r12.snd.fst r12.snd.snd.fst r12.snd.snd.snd).bind fun r103 => (k ((r103.fst, r103.snd.fst, r103.snd.snd.fst, r103.snd.snd.snd)))) else
    (bif r12.fst == 1 then
     ((M.spec_l7Some r12.snd.fst r12.snd.snd.fst r12.snd.snd.snd).bind fun r104 => (k ((r104.fst, r104.snd.fst, r104.snd.snd.fst, r104.snd.snd.snd)))) else
     (bif r12.fst == 2 then
      ((M.spec_l7Stmt 2 r12.snd.fst r12.snd.snd.fst r12.snd.snd.snd).bind fun r167 => (k ((r167.fst, r167.snd.fst, r167.snd.snd.fst, r167.snd.snd.snd)))) else
      ((M.spec_l7Program r12.snd.fst r12.snd.snd.fst r12.snd.snd.snd).bind fun r202 => (k ((r202.fst, r202.snd.fst, r202.snd.snd.fst, r202.snd.snd.snd)))))))
def M.spec_l7Any (c : List Row) (c1 : Int) (c2 : Int) : Option (List Row × List Row × Int × Int) := M.spec_l7Any_C c c1 c2 some
theorem C.spec_l7Any : S.spec_l7Any.ok X0 fun x => M.spec_l7Any x.2.1.1 x.2.1.2.1 x.2.1.2.2.1 := fnS (fun x => M.spec_l7Any_C x.2.1.1 x.2.1.2.1 x.2.1.2.2.1) [fe C.spec_l1Below, fe C.spec_l7Some, fe C.spec_l7Stmt, fe C.spec_l7Program] [] (by intros; simp only [M.spec_l7Any_C, nb] <;> rfl)
def M.spec_l6Bent_C {R : Type} (c : List Row) (c1 : Int) (c2 : Int) (k : Bool × List Row × List Row × Int × Int → Option R) : Option R :=
  (M.spec_l7Any c c1 c2).bind fun r203 =>
   ((M.spec_l1Below ((↑r203.fst.length : Int)) r203.snd.fst r203.snd.snd.fst r203.snd.snd.snd).bind fun r204 =>
    ((M.spec_l1Below 12 r204.snd.fst r204.snd.snd.fst r204.snd.snd.snd).bind fun r205 =>
     (bif r205.fst == 0 then
      ((cut (fzRows r203.fst) 0 r204.fst).bind fun rows206 => (k ((false, rows206, r205.snd.fst, r205.snd.snd.fst, r205.snd.snd.snd)))) else
      (bif r205.fst == 1 then
       ((idx r203.fst r204.fst).bind fun row207 =>
        (r203.fst[r204.fst.toNat]?.bind fun row208 =>
         ((cOwn 1 row208 4).bind fun rows209 =>
          (bif flatRows rows209 then
           ((M.spec_l1PickInt ([[D.int IntKind.i64 (-1)], [D.int IntKind.i64 r204.fst], [D.int IntKind.i64 0], [D.int IntKind.i64 99]]) r205.snd.fst r205.snd.snd.fst r205.snd.snd.snd).bind fun r210 =>
            (bif ((rows209.length + [[D.int IntKind.i64 r210.fst]].length) * 8).ble 140737488355328 then
             (bif (rows209.length + [[D.int IntKind.i64 r210.fst]].length).ble 140737488355328 then
              ((idx r203.fst r204.fst).bind fun row211 =>
               (bif flatRows (rows209 ++ [[D.int IntKind.i64 r210.fst]]) then
                (bif true && (r204.fst.toNat.beq r204.fst.toNat && (true && [D.sl true 1 (rows209 ++ [[D.int IntKind.i64 r210.fst]])].length.beq 1)) then
                 (r203.fst[r204.fst.toNat]?.bind fun row212 =>
                  (k ((true, r203.fst.set r204.fst.toNat (splice row212 4 [D.sl true 1 (rows209 ++ [[D.int IntKind.i64 r210.fst]])]), r210.snd.fst, r210.snd.snd.fst, r210.snd.snd.snd)))) else none) else none)) else none) else none)) else none)))) else
       (bif r205.fst == 2 then
        ((idx r203.fst r204.fst).bind fun row213 =>
         (r203.fst[r204.fst.toNat]?.bind fun row214 =>
          ((cOwn 1 row214 4).bind fun rows215 =>
           (bif flatRows rows215 then
            (bif flatRows rows215 then
             (r203.fst[r204.fst.toNat]?.bind fun row216 =>
              (bif decide ((↑rows215.length : Int) > 0) then
               ((idx (r203.fst.set r204.fst.toNat (splice row216 4 [D.sl true 1 rows215])) r204.fst).bind fun row217 =>
                (((r203.fst.set r204.fst.toNat (splice row216 4 [D.sl true 1 rows215]))[r204.fst.toNat]?).bind fun row218 =>
                 ((cOwn 1 row218 4).bind fun rows219 =>
                  (bif flatRows rows219 then
                   ((M.spec_l1Below (IntKind.i64.wrap (r204.fst + 1)) r205.snd.fst r205.snd.snd.fst r205.snd.snd.snd).bind fun r220 =>
                    ((idx rows219 0).bind fun row221 =>
                     (rows219[0]?.bind fun row222 =>
                      (bif flatRows (rows219.set 0 (splice row222 0 [D.int IntKind.i64 (IntKind.i64.wrap (r220.fst - 1))])) then
                       (((r203.fst.set r204.fst.toNat (splice row216 4 [D.sl true 1 rows215]))[r204.fst.toNat]?).bind fun row223 =>
                        (k ((true, (r203.fst.set r204.fst.toNat (splice row216 4 [D.sl true 1 rows215])).set r204.fst.toNat (splice row223 4 [D.sl true 1 (rows219.set 0 (splice row222 0 [D.int IntKind.i64 (IntKind.i64.wrap (r220.fst - 1))]))]), r220.snd.fst, r220.snd.snd.fst, r220.snd.snd.snd)))) else none)))) else none)))) else
               (k ((true, r203.fst.set r204.fst.toNat (splice row216 4 [D.sl true 1 rows215]), r205.snd.fst, r205.snd.snd.fst, r205.snd.snd.snd))))) else none) else none)))) else
        (bif r205.fst == 3 then
         (bif ((r203.fst.length + r203.fst.length) * 72).ble 140737488355328 && (r203.fst.length + r203.fst.length).ble 140737488355328 then
          (k ((false, fzRows r203.fst ++ fzRows r203.fst, r205.snd.fst, r205.snd.snd.fst, r205.snd.snd.snd))) else none) else (k ((true, r203.fst, r205.snd.fst, r205.snd.snd.fst, r205.snd.snd.snd)))))))))
def M.spec_l6Bent (c : List Row) (c1 : Int) (c2 : Int) : Option (Bool × List Row × List Row × Int × Int) := M.spec_l6Bent_C c c1 c2 some
theorem C.spec_l6Bent : S.spec_l6Bent.ok X0 fun x => M.spec_l6Bent x.2.1.1 x.2.1.2.1 x.2.1.2.2.1 := fnS (fun x => M.spec_l6Bent_C x.2.1.1 x.2.1.2.1 x.2.1.2.2.1) [fe C.spec_l7Any, fe C.spec_l1Below, fe C.spec_l1PickInt] [] (by intros; simp only [M.spec_l6Bent_C, nb] <;> rfl)
def M.spec_l6Where_C {R : Type} (c : List Row) (c1 : Int) (c2 : Int) (k : Bool × List Row × Int × List Row × Int × Int → Option R) : Option R :=
  (M.spec_l6Bent c c1 c2).bind fun r224 =>
   ((M.spec_l1Below (IntKind.i64.wrap ((↑(fzRows r224.snd.fst).length : Int) + 2)) r224.snd.snd.fst r224.snd.snd.snd.fst r224.snd.snd.snd.snd).bind fun r225 =>
    (k ((false, fzRows r224.snd.fst, IntKind.i64.wrap (r225.fst - 1), r225.snd.fst, r225.snd.snd.fst, r225.snd.snd.snd))))
def M.spec_l6Where (c : List Row) (c1 : Int) (c2 : Int) : Option (Bool × List Row × Int × List Row × Int × Int) := M.spec_l6Where_C c c1 c2 some
theorem C.spec_l6Where : S.spec_l6Where.ok X0 fun x => M.spec_l6Where x.2.1.1 x.2.1.2.1 x.2.1.2.2.1 := fnS (fun x => M.spec_l6Where_C x.2.1.1 x.2.1.2.1 x.2.1.2.2.1) [fe C.spec_l6Bent, fe C.spec_l1Below] [] (by intros; simp only [M.spec_l6Where_C, nb] <;> rfl)
def M.spec_DrawPathOf_C {R : Type} (code : List Row) (k : Bool × List Row × Int → Option R) : Option R :=
  (M.spec_l1New code).bind fun r4 =>
   ((M.spec_l6Where r4.fst r4.snd.fst r4.snd.snd).bind fun r226 => (k ((false, fzRows r226.snd.fst, r226.snd.snd.fst))))
def M.spec_DrawPathOf (code : List Row) : Option (Bool × List Row × Int) := M.spec_DrawPathOf_C code some
theorem C.spec_DrawPathOf : S.spec_DrawPathOf.ok X0 fun x => M.spec_DrawPathOf x.1.1 := fnS (fun x => M.spec_DrawPathOf_C x.1.1) [fe C.spec_l1New, fe C.spec_l6Where] [] (by intros; simp only [M.spec_DrawPathOf_C, nb] <;> rfl)
theorem C.impl_startsOf : S.impl_startsOf.ok X0 fun x => M.impl_startsOf x.1.1 := Sig.prim (p := Prim.impl_startsOf)
def M.impl_ShapeOk_C {R : Type} (l : List Row) (k : Bool → Option R) : Option R :=
  (M.impl_startsOf l).bind fun r228 => (k r228.snd)
def M.impl_ShapeOk (l : List Row) : Option (Bool) := M.impl_ShapeOk_C l some
theorem C.impl_ShapeOk : S.impl_ShapeOk.ok X0 fun x => M.impl_ShapeOk x.1.1 := fnS (fun x => M.impl_ShapeOk_C x.1.1) [fe C.impl_startsOf] [] (by intros; simp only [M.impl_ShapeOk_C, nb] <;> rfl)
def M.impl_within_C {R : Type} (n' : Int) (low : Int) (high : Int) (k : Bool → Option R) : Option R :=
  bif decide (n' ≥ low) then (k (decide (n' ≤ high))) else (k false)
def M.impl_within (n' : Int) (low : Int) (high : Int) : Option (Bool) := M.impl_within_C n' low high some
theorem C.impl_within : S.impl_within.ok X0 fun x => M.impl_within x.1.1 x.1.2.1 x.1.2.2.1 := fnS (fun x => M.impl_within_C x.1.1 x.1.2.1 x.1.2.2.1) [] [] (by intros; simp only [M.impl_within_C, nb] <;> rfl)
def M.impl_pathTo_l4_C {R : Type} (rec_impl_pathTo : List Row → Int → Int → Option (List Row × Bool)) (l : List Row) (i : Int) (v20 : List Row) (v21 : Int) (s : Int) (kn : Int → Option R) (ke : (List Row) ⊕ (Int) → Option R) : Option R := match s with
  | v22 =>
    bif decide (v22 < v21) then
     ((idx v20 v22).bind fun row233 =>
      ((cInt IntKind.i64 row233 0).bind fun n234 =>
       ((rec_impl_pathTo l n234 i).bind fun r235 =>
        (bif r235.snd then
         (bif (([[D.int IntKind.i64 v22]].length + r235.fst.length) * 8).ble 140737488355328 then
          (bif ([[D.int IntKind.i64 v22]].length + r235.fst.length).ble 140737488355328 then (ke (.inl ([[D.int IntKind.i64 v22]] ++ r235.fst))) else none) else none) else (kn (IntKind.i64.wrap (v22 + 1))))))) else (ke (.inr v22))
def M.impl_pathTo_l4_b (rec_impl_pathTo : List Row → Int → Int → Option (List Row × Bool)) (l : List Row) (i : Int) (v20 : List Row) (v21 : Int) (s : Int) := M.impl_pathTo_l4_C rec_impl_pathTo l i v20 v21 s (fun s => some (Sum.inl s)) fun t => some (Sum.inr t)
def M.impl_pathTo_l4 (rec_impl_pathTo : List Row → Int → Int → Option (List Row × Bool)) (l : List Row) (i : Int) (v20 : List Row) (v21 : Int) (s : Int) : Option ((List Row) ⊕ (Int)) := loopM (M.impl_pathTo_l4_b rec_impl_pathTo l i v20 v21) s
def F.impl_pathTo_l4 {rec_impl_pathTo : List Row → Int → Int → Option (List Row × Bool)} (h_impl_pathTo : S.impl_pathTo.ok X0 fun x => rec_impl_pathTo x.1.1 x.1.2.1 x.1.2.2.1) : LE X0 23 := le 4 (pSt [pAt 0 (pL false 5), pAt 2 pI, pAt 20 (pL false 1), pAt 21 pI, pAt 22 pI] []) (fun x => x.1.2.2.2.2.1) (fun x s => ((x.1.1, x.1.2.1, x.1.2.2.1, x.1.2.2.2.1, s, ()), ())) (fun x => .sum (.leaf (List Row) (fun t => (Ex.ret, { tm := [(6, V.own 300000 0), (7, V.d (D.bool true))], mem := [(300000, Cell.arr false true 0 1 t)] }))) (.leaf (Int) (fun t => (Ex.exit 0, { tm := [(0, V.d (D.sl false 5 x.1.1)), (2, V.d (D.int IntKind.i64 x.1.2.1)), (20, V.d (D.sl false 1 x.1.2.2.1)), (21, V.d (D.int IntKind.i64 x.1.2.2.2.1)), (22, V.d (D.int IntKind.i64 t)), (23, V.d (D.bool false))], mem := [] })))) (fun x => M.impl_pathTo_l4_C rec_impl_pathTo x.1.1 x.1.2.1 x.1.2.2.1 x.1.2.2.2.1) [fe h_impl_pathTo] [] (by rintro _ _ _ _ _ <;> simp only [M.impl_pathTo_l4_C, nb] <;> rfl)
def M.impl_pathTo_C {R : Type} (rec_impl_pathTo : List Row → Int → Int → Option (List Row × Bool)) (l : List Row) (from' : Int) (i : Int) (k : List Row × Bool → Option R) : Option R :=
  bif from' == i then (k (([], true))) else
   ((idx l from').bind fun row231 =>
    ((cSl 1 row231 4).bind fun rows232 =>
     ((M.impl_pathTo_l4 rec_impl_pathTo l i rows232 ((↑rows232.length : Int)) 0).bind fun u238 =>
     sumE u238 (fun t236 => (bif flatRows t236 then (k ((t236, true))) else none)) fun u239 =>
      letE u239 fun t237 => (k (([], false))))))
def M.impl_pathTo_N : Nat → List Row → Int → Int → Option (List Row × Bool)
  | 0 => fun _ _ _ => none
  | n + 1 => fun l from' i => M.impl_pathTo_C (M.impl_pathTo_N n) l from' i some
def M.impl_pathTo (l : List Row) (from' : Int) (i : Int) : Option (List Row × Bool) := lim fun n => M.impl_pathTo_N n l from' i
theorem C.impl_pathTo_r1 {rec_impl_pathTo : List Row → Int → Int → Option (List Row × Bool)} (h_impl_pathTo : S.impl_pathTo.ok X0 fun x => rec_impl_pathTo x.1.1 x.1.2.1 x.1.2.2.1) : S.impl_pathTo.ok X0 fun x => M.impl_pathTo_C rec_impl_pathTo x.1.1 x.1.2.1 x.1.2.2.1 some := fnS (fun x => M.impl_pathTo_C rec_impl_pathTo x.1.1 x.1.2.1 x.1.2.2.1) [] [F.impl_pathTo_l4 h_impl_pathTo] (by intros; simp only [M.impl_pathTo_C, nb] <;> rfl)
theorem C.impl_pathTo_N : ∀ n, S.impl_pathTo.ok X0 fun x => M.impl_pathTo_N n x.1.1 x.1.2.1 x.1.2.2.1
  | 0 => Sig.zero
  | n + 1 => C.impl_pathTo_r1 (C.impl_pathTo_N n)
theorem C.impl_pathTo : S.impl_pathTo.ok X0 fun x => M.impl_pathTo x.1.1 x.1.2.1 x.1.2.2.1 := Sig.lim C.impl_pathTo_N
theorem M.impl_pathTo_of {n : Nat} {l : List Row} {from' : Int} {i : Int} {r : List Row × Bool} (h : M.impl_pathTo_N n l from' i = some r) : M.impl_pathTo l from' i = some r :=
  Sig.lim_of C.impl_pathTo_N (by intro a b h; simp [S.impl_pathTo, sg] at h; first | exact h | simp [Prod.ext_iff, h]) (x := ((l, from', i, ()), ())) h
def M.impl_PathOf_C {R : Type} (l : List Row) (i : Int) (k : List Row → Option R) : Option R :=
  (M.impl_ShapeOk l).bind fun r229 =>
   (bif !r229 then (k []) else
    ((M.impl_within i 0 (IntKind.i64.wrap ((↑l.length : Int) - 1))).bind fun r230 =>
     (bif !r230 then (k []) else
      ((M.impl_pathTo l (IntKind.i64.wrap ((↑l.length : Int) - 1)) i).bind fun r240 => (bif flatRows r240.fst then (k r240.fst) else none)))))
def M.impl_PathOf (l : List Row) (i : Int) : Option (List Row) := M.impl_PathOf_C l i some
theorem C.impl_PathOf : S.impl_PathOf.ok X0 fun x => M.impl_PathOf x.1.1 x.1.2.1 := fnS (fun x => M.impl_PathOf_C x.1.1 x.1.2.1) [fe C.impl_ShapeOk, fe C.impl_within, fe C.impl_pathTo] [] (by intros; simp only [M.impl_PathOf_C, nb] <;> rfl)
def M.spec_l1In_C {R : Type} (x' : Int) (low : Int) (high : Int) (k : Bool → Option R) : Option R :=
  bif decide (x' ≥ low) then (k (decide (x' ≤ high))) else (k false)
def M.spec_l1In (x' : Int) (low : Int) (high : Int) : Option (Bool) := M.spec_l1In_C x' low high some
theorem C.spec_l1In : S.spec_l1In.ok X0 fun x => M.spec_l1In x.1.1 x.1.2.1 x.1.2.2.1 := fnS (fun x => M.spec_l1In_C x.1.1 x.1.2.1 x.1.2.2.1) [] [] (by intros; simp only [M.spec_l1In_C, nb] <;> rfl)
def M.spec_l6Starts_l7_C {R : Type} (l : List Row) (i : Int) (x' : List Row) (s : Int × Int) (kn : Int × Int → Option R) (ke : (Unit) ⊕ (Int × Int) → Option R) : Option R := match s with
  | (at', k') =>
    bif decide (k' ≥ 0) then
     ((idx l i).bind fun row245 =>
      ((cSl 1 row245 4).bind fun rows246 =>
       ((idx rows246 k').bind fun row247 =>
        ((cInt IntKind.i64 row247 0).bind fun n248 =>
         (bif n248 != IntKind.i64.wrap (at' - 1) then (ke (.inl ())) else
          (bif at' == 0 then (ke (.inl ())) else
           ((idx x' (IntKind.i64.wrap (at' - 1))).bind fun row249 =>
            ((x'[(IntKind.i64.wrap (at' - 1)).toNat]?).bind fun row250 => ((cInt IntKind.i64 row250 0).bind fun n251 => (kn ((n251, IntKind.i64.wrap (k' - 1))))))))))))) else (ke (.inr ((at', k'))))
def M.spec_l6Starts_l7_b (l : List Row) (i : Int) (x' : List Row) (s : Int × Int) := M.spec_l6Starts_l7_C l i x' s (fun s => some (Sum.inl s)) fun t => some (Sum.inr t)
def M.spec_l6Starts_l7 (l : List Row) (i : Int) (x' : List Row) (s : Int × Int) : Option ((Unit) ⊕ (Int × Int)) := loopM (M.spec_l6Starts_l7_b l i x') s
def F.spec_l6Starts_l7 : LE X0 25 := le 7 (pSt [pAt 0 (pL false 5), pAt 4 (pO 300000 0), pAt 5 pI, pAt 6 pI, pAt 7 pI] [pAt 300000 (cA false true 0 1)]) (fun x => (x.1.2.2.2.1, x.1.2.2.2.2.1)) (fun x s => ((x.1.1, (), x.1.2.2.1, s.1, s.2, ()), (x.2.1, ()))) (fun x => .sum (.leaf (Unit) (fun t => (Ex.ret, { tm := [(2, V.own 300000 0), (3, V.d (D.bool false))], mem := [(300000, Cell.arr false true 0 1 [])] }))) (.leaf (Int × Int) (fun t => (Ex.exit 2, { tm := [(0, V.d (D.sl false 5 x.1.1)), (4, V.own 300000 0), (5, V.d (D.int IntKind.i64 x.1.2.2.1)), (6, V.d (D.int IntKind.i64 t.fst)), (7, V.d (D.int IntKind.i64 t.snd)), (24, V.d (D.bool false))], mem := [(300000, Cell.arr false true 0 1 x.2.1)] })))) (fun x => M.spec_l6Starts_l7_C x.1.1 x.1.2.2.1 x.2.1) [] [] (by rintro _ _ ⟨_, _⟩ _ _ <;> simp only [M.spec_l6Starts_l7_C, nb] <;> rfl)
def M.spec_l6Starts_l3_C {R : Type} (l : List Row) (s : Int × List Row) (kn : Int × List Row → Option R) (ke : (Unit) ⊕ (Int × List Row) → Option R) : Option R := match s with
  | (i, x') =>
    bif decide (i < (↑l.length : Int)) then
     ((idx l i).bind fun row243 =>
      ((cSl 1 row243 4).bind fun rows244 =>
       ((M.spec_l6Starts_l7 l i x' ((i, IntKind.i64.wrap ((↑rows244.length : Int) - 1)))).bind fun u256 =>
       sumE u256 (fun t252 => (ke (.inl ()))) fun u257 =>
        letE u257 fun t253 =>
         (bif ((x'.length + [[D.int IntKind.i64 t253.fst]].length) * 8).ble 140737488355328 then
          (bif (x'.length + [[D.int IntKind.i64 t253.fst]].length).ble 140737488355328 then (kn ((IntKind.i64.wrap (i + 1), x' ++ [[D.int IntKind.i64 t253.fst]]))) else none) else none)))) else (ke (.inr ((i, x'))))
def M.spec_l6Starts_l3_b (l : List Row) (s : Int × List Row) := M.spec_l6Starts_l3_C l s (fun s => some (Sum.inl s)) fun t => some (Sum.inr t)
def M.spec_l6Starts_l3 (l : List Row) (s : Int × List Row) : Option ((Unit) ⊕ (Int × List Row)) := loopM (M.spec_l6Starts_l3_b l) s
def F.spec_l6Starts_l3 : LE X0 25 := le 3 (pSt [pAt 0 (pL false 5), pAt 4 (pO 300000 0), pAt 5 pI] [pAt 300000 (cA false true 0 1)]) (fun x => (x.1.2.2.1, x.2.1)) (fun x s => ((x.1.1, (), s.1, ()), (s.2, ()))) (fun x => .sum (.leaf (Unit) (fun t => (Ex.ret, { tm := [(2, V.own 300000 0), (3, V.d (D.bool false))], mem := [(300000, Cell.arr false true 0 1 [])] }))) (.leaf (Int × List Row) (fun t => (Ex.exit 0, { tm := [(0, V.d (D.sl false 5 x.1.1)), (4, V.own 300000 0), (5, V.d (D.int IntKind.i64 t.fst)), (12, V.d (D.bool false))], mem := [(300000, Cell.arr false true 0 1 t.snd)] })))) (fun x => M.spec_l6Starts_l3_C x.1.1) [] [F.spec_l6Starts_l7] (by rintro _ _ ⟨_, _⟩ _ _ <;> simp only [M.spec_l6Starts_l3_C, nb] <;> rfl)
def M.spec_l6Starts_C {R : Type} (l : List Row) (k : List Row × Bool → Option R) : Option R :=
  (M.spec_l6Starts_l3 l ((0, []))).bind fun u258 =>
  sumE u258 (fun t254 => (k (([], false)))) fun u259 =>
   letE u259 fun t255 => (bif flatRows t255.snd then (k ((t255.snd, true))) else none)
def M.spec_l6Starts (l : List Row) : Option (List Row × Bool) := M.spec_l6Starts_C l some
theorem C.spec_l6Starts : S.spec_l6Starts.ok X0 fun x => M.spec_l6Starts x.1.1 := fnS (fun x => M.spec_l6Starts_C x.1.1) [] [F.spec_l6Starts_l3] (by intros; simp only [M.spec_l6Starts_C, nb] <;> rfl)
def M.spec_ShapeOk_C {R : Type} (l : List Row) (k : Bool → Option R) : Option R :=
  (M.spec_l1In ((↑l.length : Int)) 1 400).bind fun r242 =>
   (bif !r242 then (k false) else
    ((M.spec_l6Starts l).bind fun r260 =>
     (bif r260.snd then
      ((idx r260.fst (IntKind.i64.wrap ((↑l.length : Int) - 1))).bind fun row261 =>
       ((r260.fst[(IntKind.i64.wrap ((↑l.length : Int) - 1)).toNat]?).bind fun row262 => ((cInt IntKind.i64 row262 0).bind fun n263 => (k (n263 == 0))))) else (k false))))
def M.spec_ShapeOk (l : List Row) : Option (Bool) := M.spec_ShapeOk_C l some
theorem C.spec_ShapeOk : S.spec_ShapeOk.ok X0 fun x => M.spec_ShapeOk x.1.1 := fnS (fun x => M.spec_ShapeOk_C x.1.1) [fe C.spec_l1In, fe C.spec_l6Starts] [] (by intros; simp only [M.spec_ShapeOk_C, nb] <;> rfl)
def M.impl_preorder_l3_C {R : Type} (rec_impl_preorder : List Row → Int → List Row → Option (List Row)) (l : List Row) (v17 : List Row) (v18 : Int) (s : Int × List Row) (kn : Int × List Row → Option R) (ke : Int × List Row → Option R) : Option R := match s with
  | (v19, x') =>
    bif decide (v19 < v18) then
     ((idx v17 v19).bind fun row268 =>
      ((cInt IntKind.i64 row268 0).bind fun n269 =>
       (bif flatRows x' then ((rec_impl_preorder l n269 x').bind fun r270 => (kn ((IntKind.i64.wrap (v19 + 1), r270)))) else none))) else (ke ((v19, x')))
def M.impl_preorder_l3_b (rec_impl_preorder : List Row → Int → List Row → Option (List Row)) (l : List Row) (v17 : List Row) (v18 : Int) (s : Int × List Row) := M.impl_preorder_l3_C rec_impl_preorder l v17 v18 s (fun s => some (Sum.inl s)) fun t => some (Sum.inr t)
def M.impl_preorder_l3 (rec_impl_preorder : List Row → Int → List Row → Option (List Row)) (l : List Row) (v17 : List Row) (v18 : Int) (s : Int × List Row) : Option (Int × List Row) := loopM (M.impl_preorder_l3_b rec_impl_preorder l v17 v18) s
def F.impl_preorder_l3 {rec_impl_preorder : List Row → Int → List Row → Option (List Row)} (h_impl_preorder : S.impl_preorder.ok X0 fun x => rec_impl_preorder x.1.1 x.1.2.1 x.1.2.2.1) : LE X0 26 := le 3 (pSt [pAt 0 (pL false 5), pAt 2 (pO 300000 0), pAt 17 (pL false 1), pAt 18 pI, pAt 19 pI] [pAt 300000 (cA false true 0 1)]) (fun x => (x.1.2.2.2.2.1, x.2.1)) (fun x s => ((x.1.1, (), x.1.2.2.1, x.1.2.2.2.1, s.1, ()), (s.2, ()))) (fun x => .leaf (Int × List Row) (fun t => (Ex.exit 0, { tm := [(0, V.d (D.sl false 5 x.1.1)), (2, V.own 300000 0), (17, V.d (D.sl false 1 x.1.2.2.1)), (18, V.d (D.int IntKind.i64 x.1.2.2.2.1)), (19, V.d (D.int IntKind.i64 t.fst)), (20, V.d (D.bool false))], mem := [(300000, Cell.arr false true 0 1 t.snd)] }))) (fun x => M.impl_preorder_l3_C rec_impl_preorder x.1.1 x.1.2.2.1 x.1.2.2.2.1) [fe h_impl_preorder] [] (by rintro _ _ ⟨_, _⟩ _ _ <;> simp only [M.impl_preorder_l3_C, nb] <;> rfl)
def M.impl_preorder_C {R : Type} (rec_impl_preorder : List Row → Int → List Row → Option (List Row)) (l : List Row) (i : Int) (out' : List Row) (k : List Row → Option R) : Option R :=
  bif ((out'.length + [[D.int IntKind.i64 i]].length) * 8).ble 140737488355328 then
   (bif (out'.length + [[D.int IntKind.i64 i]].length).ble 140737488355328 then
    ((idx l i).bind fun row266 =>
     ((cSl 1 row266 4).bind fun rows267 =>
      ((M.impl_preorder_l3 rec_impl_preorder l rows267 ((↑rows267.length : Int)) ((0, out' ++ [[D.int IntKind.i64 i]]))).bind fun t271 => (bif flatRows t271.snd then (k t271.snd) else none)))) else none) else none
def M.impl_preorder_N : Nat → List Row → Int → List Row → Option (List Row)
  | 0 => fun _ _ _ => none
  | n + 1 => fun l i out' => M.impl_preorder_C (M.impl_preorder_N n) l i out' some
def M.impl_preorder (l : List Row) (i : Int) (out' : List Row) : Option (List Row) := lim fun n => M.impl_preorder_N n l i out'
theorem C.impl_preorder_r1 {rec_impl_preorder : List Row → Int → List Row → Option (List Row)} (h_impl_preorder : S.impl_preorder.ok X0 fun x => rec_impl_preorder x.1.1 x.1.2.1 x.1.2.2.1) : S.impl_preorder.ok X0 fun x => M.impl_preorder_C rec_impl_preorder x.1.1 x.1.2.1 x.1.2.2.1 some := fnS (fun x => M.impl_preorder_C rec_impl_preorder x.1.1 x.1.2.1 x.1.2.2.1) [] [F.impl_preorder_l3 h_impl_preorder] (by intros; simp only [M.impl_preorder_C, nb] <;> rfl)
theorem C.impl_preorder_N : ∀ n, S.impl_preorder.ok X0 fun x => M.impl_preorder_N n x.1.1 x.1.2.1 x.1.2.2.1
  | 0 => Sig.zero
  | n + 1 => C.impl_preorder_r1 (C.impl_preorder_N n)
theorem C.impl_preorder : S.impl_preorder.ok X0 fun x => M.impl_preorder x.1.1 x.1.2.1 x.1.2.2.1 := Sig.lim C.impl_preorder_N
theorem M.impl_preorder_of {n : Nat} {l : List Row} {i : Int} {out' : List Row} {r : List Row} (h : M.impl_preorder_N n l i out' = some r) : M.impl_preorder l i out' = some r :=
  Sig.lim_of C.impl_preorder_N (by intro a b h; simp [S.impl_preorder, sg] at h; first | exact h | simp [Prod.ext_iff, h]) (x := ((l, i, out', ()), ())) h
def M.impl_Preorder_C {R : Type} (l : List Row) (k : List Row → Option R) : Option R :=
  (M.impl_ShapeOk l).bind fun r265 =>
   (bif !r265 then (k []) else
    ((M.impl_preorder l (IntKind.i64.wrap ((↑l.length : Int) - 1)) []).bind fun r272 => (bif flatRows r272 then (k r272) else none)))
def M.impl_Preorder (l : List Row) : Option (List Row) := M.impl_Preorder_C l some
theorem C.impl_Preorder : S.impl_Preorder.ok X0 fun x => M.impl_Preorder x.1.1 := fnS (fun x => M.impl_Preorder_C x.1.1) [fe C.impl_ShapeOk, fe C.impl_preorder] [] (by intros; simp only [M.impl_Preorder_C, nb] <;> rfl)
def M.impl_NodeBy_l5_C {R : Type} (l : List Row) (v14 : List Row) (v15 : Int) (s : Int × Int) (kn : Int × Int → Option R) (ke : (Unit) ⊕ (Int × Int) → Option R) : Option R := match s with
  | (at', v16) =>
    bif decide (v16 < v15) then
     ((idx v14 v16).bind fun row275 =>
      ((cInt IntKind.i64 row275 0).bind fun n276 =>
       ((idx l at').bind fun row277 =>
        ((cSl 1 row277 4).bind fun rows278 =>
         ((M.impl_within n276 0 (IntKind.i64.wrap ((↑rows278.length : Int) - 1))).bind fun r279 =>
          (bif !r279 then (ke (.inl ())) else
           ((idx l at').bind fun row280 =>
            ((cSl 1 row280 4).bind fun rows281 =>
             ((idx rows281 n276).bind fun row282 => ((cInt IntKind.i64 row282 0).bind fun n283 => (kn ((n283, IntKind.i64.wrap (v16 + 1)))))))))))))) else (ke (.inr ((at', v16))))
def M.impl_NodeBy_l5_b (l : List Row) (v14 : List Row) (v15 : Int) (s : Int × Int) := M.impl_NodeBy_l5_C l v14 v15 s (fun s => some (Sum.inl s)) fun t => some (Sum.inr t)
def M.impl_NodeBy_l5 (l : List Row) (v14 : List Row) (v15 : Int) (s : Int × Int) : Option ((Unit) ⊕ (Int × Int)) := loopM (M.impl_NodeBy_l5_b l v14 v15) s
def F.impl_NodeBy_l5 : LE X0 9 := le 5 (pSt [pAt 0 (pL false 5), pAt 5 pI, pAt 14 (pL false 1), pAt 15 pI, pAt 16 pI] []) (fun x => (x.1.2.1, x.1.2.2.2.2.1)) (fun x s => ((x.1.1, s.1, x.1.2.2.1, x.1.2.2.2.1, s.2, ()), ())) (fun x => .sum (.leaf (Unit) (fun t => (Ex.ret, { tm := [(4, V.d (D.int IntKind.i64 (-1)))], mem := [] }))) (.leaf (Int × Int) (fun t => (Ex.exit 0, { tm := [(0, V.d (D.sl false 5 x.1.1)), (5, V.d (D.int IntKind.i64 t.fst)), (14, V.d (D.sl false 1 x.1.2.2.1)), (15, V.d (D.int IntKind.i64 x.1.2.2.2.1)), (16, V.d (D.int IntKind.i64 t.snd)), (17, V.d (D.bool false))], mem := [] })))) (fun x => M.impl_NodeBy_l5_C x.1.1 x.1.2.2.1 x.1.2.2.2.1) [fe C.impl_within] [] (by rintro _ _ ⟨_, _⟩ _ _ <;> simp only [M.impl_NodeBy_l5_C, nb] <;> rfl)
def M.impl_NodeBy_C {R : Type} (l : List Row) (path : List Row) (k : Int → Option R) : Option R :=
  (M.impl_ShapeOk l).bind fun r274 =>
   (bif !r274 then (k (-1)) else
    ((M.impl_NodeBy_l5 l path ((↑path.length : Int)) ((IntKind.i64.wrap ((↑l.length : Int) - 1), 0))).bind fun u286 =>
    sumE u286 (fun t284 => (k (-1))) fun u287 =>
     letE u287 fun t285 => (k t285.fst)))
def M.impl_NodeBy (l : List Row) (path : List Row) : Option (Int) := M.impl_NodeBy_C l path some
theorem C.impl_NodeBy : S.impl_NodeBy.ok X0 fun x => M.impl_NodeBy x.1.1 x.1.2.1 := fnS (fun x => M.impl_NodeBy_C x.1.1 x.1.2.1) [fe C.impl_ShapeOk] [F.impl_NodeBy_l5] (by intros; simp only [M.impl_NodeBy_C, nb] <;> rfl)
def M.spec_DepthOf_l9_C {R : Type} (l : List Row) (i : Int) (x' : List Row) (s : Int × Int) (kn : Int × Int → Option R) (ke : Int × Int → Option R) : Option R := match s with
  | (n', k') =>
    (idx l i).bind fun row293 =>
     ((cSl 1 row293 4).bind fun rows294 =>
      (bif decide (k' < (↑rows294.length : Int)) then
       ((idx l i).bind fun row295 =>
        ((cSl 1 row295 4).bind fun rows296 =>
         ((idx rows296 k').bind fun row297 =>
          ((cInt IntKind.i64 row297 0).bind fun n298 =>
           ((idx x' n298).bind fun row299 =>
            (x'[n298.toNat]?.bind fun row300 =>
             ((cInt IntKind.i64 row300 0).bind fun n301 =>
              (kn ((bif decide (n' < IntKind.i64.wrap (1 + n301)) then IntKind.i64.wrap (1 + n301) else n', IntKind.i64.wrap (k' + 1))))))))))) else (ke ((n', k')))))
def M.spec_DepthOf_l9_b (l : List Row) (i : Int) (x' : List Row) (s : Int × Int) := M.spec_DepthOf_l9_C l i x' s (fun s => some (Sum.inl s)) fun t => some (Sum.inr t)
def M.spec_DepthOf_l9 (l : List Row) (i : Int) (x' : List Row) (s : Int × Int) : Option (Int × Int) := loopM (M.spec_DepthOf_l9_b l i x') s
def F.spec_DepthOf_l9 : LE X0 10 := le 9 (pSt [pAt 0 (pL false 5), pAt 3 (pO 300000 0), pAt 4 pI, pAt 5 pI, pAt 6 pI] [pAt 300000 (cA false true 0 1)]) (fun x => (x.1.2.2.2.1, x.1.2.2.2.2.1)) (fun x s => ((x.1.1, (), x.1.2.2.1, s.1, s.2, ()), (x.2.1, ()))) (fun x => .leaf (Int × Int) (fun t => (Ex.exit 2, { tm := [(0, V.d (D.sl false 5 x.1.1)), (3, V.own 300000 0), (4, V.d (D.int IntKind.i64 x.1.2.2.1)), (5, V.d (D.int IntKind.i64 t.fst)), (6, V.d (D.int IntKind.i64 t.snd)), (24, V.d (D.bool false))], mem := [(300000, Cell.arr false true 0 1 x.2.1)] }))) (fun x => M.spec_DepthOf_l9_C x.1.1 x.1.2.2.1 x.2.1) [] [] (by rintro _ _ ⟨_, _⟩ _ _ <;> simp only [M.spec_DepthOf_l9_C, nb] <;> rfl)
def M.spec_DepthOf_l5_C {R : Type} (l : List Row) (s : Int × List Row) (kn : Int × List Row → Option R) (ke : Int × List Row → Option R) : Option R := match s with
  | (i, x') =>
    bif decide (i < (↑l.length : Int)) then
     ((M.spec_DepthOf_l9 l i x' ((1, 0))).bind fun t302 =>
      (bif ((x'.length + [[D.int IntKind.i64 t302.fst]].length) * 8).ble 140737488355328 then
       (bif (x'.length + [[D.int IntKind.i64 t302.fst]].length).ble 140737488355328 then (kn ((IntKind.i64.wrap (i + 1), x' ++ [[D.int IntKind.i64 t302.fst]]))) else none) else none)) else (ke ((i, x')))
def M.spec_DepthOf_l5_b (l : List Row) (s : Int × List Row) := M.spec_DepthOf_l5_C l s (fun s => some (Sum.inl s)) fun t => some (Sum.inr t)
def M.spec_DepthOf_l5 (l : List Row) (s : Int × List Row) : Option (Int × List Row) := loopM (M.spec_DepthOf_l5_b l) s
def F.spec_DepthOf_l5 : LE X0 10 := le 5 (pSt [pAt 0 (pL false 5), pAt 3 (pO 300000 0), pAt 4 pI] [pAt 300000 (cA false true 0 1)]) (fun x => (x.1.2.2.1, x.2.1)) (fun x s => ((x.1.1, (), s.1, ()), (s.2, ()))) (fun x => .leaf (Int × List Row) (fun t => (Ex.exit 0, { tm := [(0, V.d (D.sl false 5 x.1.1)), (3, V.own 300000 0), (4, V.d (D.int IntKind.i64 t.fst)), (14, V.d (D.bool false))], mem := [(300000, Cell.arr false true 0 1 t.snd)] }))) (fun x => M.spec_DepthOf_l5_C x.1.1) [] [F.spec_DepthOf_l9] (by rintro _ _ ⟨_, _⟩ _ _ <;> simp only [M.spec_DepthOf_l5_C, nb] <;> rfl)
def M.spec_DepthOf_C {R : Type} (l : List Row) (k : Int → Option R) : Option R :=
  (M.spec_ShapeOk l).bind fun r292 =>
   (bif !r292 then (k 0) else
    ((M.spec_DepthOf_l5 l ((0, []))).bind fun t303 =>
     ((idx t303.snd (IntKind.i64.wrap ((↑l.length : Int) - 1))).bind fun row304 =>
      ((t303.snd[(IntKind.i64.wrap ((↑l.length : Int) - 1)).toNat]?).bind fun row305 => ((cInt IntKind.i64 row305 0).bind fun n306 => (k n306))))))
def M.spec_DepthOf (l : List Row) : Option (Int) := M.spec_DepthOf_C l some
theorem C.spec_DepthOf : S.spec_DepthOf.ok X0 fun x => M.spec_DepthOf x.1.1 := fnS (fun x => M.spec_DepthOf_C x.1.1) [fe C.spec_ShapeOk] [F.spec_DepthOf_l5] (by intros; simp only [M.spec_DepthOf_C, nb] <;> rfl)
def M.laws_has_l2_C {R : Type} (l : List Row) (x' : Int) (s : Int) (kn : Int → Option R) (ke : (Unit) ⊕ (Int) → Option R) : Option R := match s with
  | i =>
    bif decide (i < (↑l.length : Int)) then
     ((idx l i).bind fun row308 =>
      ((cInt IntKind.i64 row308 0).bind fun n309 => (bif n309 == x' then (ke (.inl ())) else (kn (IntKind.i64.wrap (i + 1)))))) else (ke (.inr i))
def M.laws_has_l2_b (l : List Row) (x' : Int) (s : Int) := M.laws_has_l2_C l x' s (fun s => some (Sum.inl s)) fun t => some (Sum.inr t)
def M.laws_has_l2 (l : List Row) (x' : Int) (s : Int) : Option ((Unit) ⊕ (Int)) := loopM (M.laws_has_l2_b l x') s
def F.laws_has_l2 : LE X0 11 := le 2 (pSt [pAt 0 (pL false 1), pAt 1 pI, pAt 5 pI] []) (fun x => x.1.2.2.1) (fun x s => ((x.1.1, x.1.2.1, s, ()), ())) (fun x => .sum (.leaf (Unit) (fun t => (Ex.ret, { tm := [(4, V.d (D.bool true))], mem := [] }))) (.leaf (Int) (fun t => (Ex.exit 0, { tm := [(0, V.d (D.sl false 1 x.1.1)), (1, V.d (D.int IntKind.i64 x.1.2.1)), (5, V.d (D.int IntKind.i64 t)), (9, V.d (D.bool false))], mem := [] })))) (fun x => M.laws_has_l2_C x.1.1 x.1.2.1) [] [] (by rintro _ _ _ _ _ <;> simp only [M.laws_has_l2_C, nb] <;> rfl)
def M.laws_has_C {R : Type} (l : List Row) (x' : Int) (k : Bool → Option R) : Option R :=
  (M.laws_has_l2 l x' 0).bind fun u312 =>
  sumE u312 (fun t310 => (k true)) fun u313 =>
   letE u313 fun t311 => (k false)
def M.laws_has (l : List Row) (x' : Int) : Option (Bool) := M.laws_has_C l x' some
theorem C.laws_has : S.laws_has.ok X0 fun x => M.laws_has x.1.1 x.1.2.1 := fnS (fun x => M.laws_has_C x.1.1 x.1.2.1) [] [F.laws_has_l2] (by intros; simp only [M.laws_has_C, nb] <;> rfl)
def M.spec_l6Copy_C {R : Type} (l : List Row) (k : List Row → Option R) : Option R :=
  (M.spec_l6Shift l 0).bind fun r319 => (k r319)
def M.spec_l6Copy (l : List Row) : Option (List Row) := M.spec_l6Copy_C l some
theorem C.spec_l6Copy : S.spec_l6Copy.ok X0 fun x => M.spec_l6Copy x.1.1 := fnS (fun x => M.spec_l6Copy_C x.1.1) [fe C.spec_l6Shift] [] (by intros; simp only [M.spec_l6Copy_C, nb] <;> rfl)
def M.spec_DrawFirstApart_C {R : Type} (code : List Row) (k : Bool × List Row × Bool × List Row → Option R) : Option R :=
  (M.spec_l1New code).bind fun r317 =>
   ((M.spec_l6Bent r317.fst r317.snd.fst r317.snd.snd).bind fun r318 =>
    ((M.spec_l6Copy (fzRows r318.snd.fst)).bind fun r320 =>
     (bif decide ((↑r320.length : Int) > 0) then
      ((M.spec_l1Once 3 r318.snd.snd.fst r318.snd.snd.snd.fst r318.snd.snd.snd.snd).bind fun r321 =>
       (bif !r321.fst then
        ((M.spec_l1Below ((↑r320.length : Int)) r321.snd.fst r321.snd.snd.fst r321.snd.snd.snd).bind fun r322 =>
         ((idx r320 r322.fst).bind fun row323 =>
          (r320[r322.fst.toNat]?.bind fun row324 =>
           ((cStr row324 2).bind fun s325 =>
            (bif (s325.length + 1).ble 9223372036854775807 then
             ((idx r320 r322.fst).bind fun row326 =>
              (r320[r322.fst.toNat]?.bind fun row327 =>
               ((M.spec_l1Once 3 r322.snd.fst r322.snd.snd.fst r322.snd.snd.snd).bind fun r328 =>
                (bif r328.fst then
                 ((M.spec_l7Any r328.snd.fst r328.snd.snd.fst r328.snd.snd.snd).bind fun r329 => (k ((false, fzRows r318.snd.fst, true, r329.fst)))) else
                 (k ((false, fzRows r318.snd.fst, true, r320.set r322.fst.toNat (splice row327 2 [D.str (s325 ++ [113])])))))))) else none))))) else (k ((false, fzRows r318.snd.fst, true, r320))))) else (k ((false, fzRows r318.snd.fst, true, r320))))))
def M.spec_DrawFirstApart (code : List Row) : Option (Bool × List Row × Bool × List Row) := M.spec_DrawFirstApart_C code some
theorem C.spec_DrawFirstApart : S.spec_DrawFirstApart.ok X0 fun x => M.spec_DrawFirstApart x.1.1 := fnS (fun x => M.spec_DrawFirstApart_C x.1.1) [fe C.spec_l1New, fe C.spec_l6Bent, fe C.spec_l6Copy, fe C.spec_l1Once, fe C.spec_l1Below, fe C.spec_l7Any] [] (by intros; simp only [M.spec_DrawFirstApart_C, nb] <;> rfl)
def M.impl_FirstApart_l5_C {R : Type} (a : List Row) (b : List Row) (v26 : Int) (x' : List Row) (x'1 : List Row) (s : Int) (kn : Int → Option R) (ke : (List Row) ⊕ (Int) → Option R) : Option R := match s with
  | v27 =>
    bif decide (v27 < v26) then
     ((idx x' v27).bind fun row335 =>
      (x'[v27.toNat]?.bind fun row336 =>
       ((cInt IntKind.i64 row336 0).bind fun n337 =>
        ((idx a n337).bind fun row338 =>
         ((cInt IntKind.i64 row338 0).bind fun n339 =>
          ((cInt IntKind.i64 row338 1).bind fun n340 =>
           ((cStr row338 2).bind fun s341 =>
            ((cStr row338 3).bind fun s342 =>
             ((cSl 1 row338 4).bind fun rows343 =>
              ((idx x'1 v27).bind fun row344 =>
               (x'1[v27.toNat]?.bind fun row345 =>
                ((cInt IntKind.i64 row345 0).bind fun n346 =>
                 ((idx b n346).bind fun row347 =>
                  ((cInt IntKind.i64 row347 0).bind fun n348 =>
                   ((cInt IntKind.i64 row347 1).bind fun n349 =>
                    ((cStr row347 2).bind fun s350 =>
                     ((cStr row347 3).bind fun s351 =>
                      ((cSl 1 row347 4).bind fun rows352 =>
                       (bif n339 != n348 then
                        ((idx x' v27).bind fun row353 =>
                         (x'[v27.toNat]?.bind fun row354 =>
                          ((cInt IntKind.i64 row354 0).bind fun n355 => ((M.impl_PathOf a n355).bind fun r356 => (ke (.inl r356)))))) else
                        (bif n340 != n349 then
                         ((idx x' v27).bind fun row357 =>
                          (x'[v27.toNat]?.bind fun row358 =>
                           ((cInt IntKind.i64 row358 0).bind fun n359 => ((M.impl_PathOf a n359).bind fun r360 => (ke (.inl r360)))))) else
                         (bif !s341 == s350 then
                          ((idx x' v27).bind fun row361 =>
                           (x'[v27.toNat]?.bind fun row362 =>
                            ((cInt IntKind.i64 row362 0).bind fun n363 => ((M.impl_PathOf a n363).bind fun r364 => (ke (.inl r364)))))) else
                          (bif !s342 == s351 then
                           ((idx x' v27).bind fun row365 =>
                            (x'[v27.toNat]?.bind fun row366 =>
                             ((cInt IntKind.i64 row366 0).bind fun n367 => ((M.impl_PathOf a n367).bind fun r368 => (ke (.inl r368)))))) else
                           (bif (↑rows343.length : Int) != (↑rows352.length : Int) then
                            ((idx x' v27).bind fun row369 =>
                             (x'[v27.toNat]?.bind fun row370 =>
                              ((cInt IntKind.i64 row370 0).bind fun n371 => ((M.impl_PathOf a n371).bind fun r372 => (ke (.inl r372)))))) else (kn (IntKind.i64.wrap (v27 + 1)))))))))))))))))))))))))) else (ke (.inr v27))
def M.impl_FirstApart_l5_b (a : List Row) (b : List Row) (v26 : Int) (x' : List Row) (x'1 : List Row) (s : Int) := M.impl_FirstApart_l5_C a b v26 x' x'1 s (fun s => some (Sum.inl s)) fun t => some (Sum.inr t)
def M.impl_FirstApart_l5 (a : List Row) (b : List Row) (v26 : Int) (x' : List Row) (x'1 : List Row) (s : Int) : Option ((List Row) ⊕ (Int)) := loopM (M.impl_FirstApart_l5_b a b v26 x' x'1) s
def F.impl_FirstApart_l5 : LE X0 13 := le 5 (pSt [pAt 0 (pL false 5), pAt 1 (pL false 5), pAt 5 (pO 300000 0), pAt 6 (pO 300001 0), pAt 26 pI, pAt 27 pI] [pAt 300000 (cA false true 0 1), pAt 300001 (cA false true 0 1)]) (fun x => x.1.2.2.2.2.2.1) (fun x s => ((x.1.1, x.1.2.1, (), (), x.1.2.2.2.2.1, s, ()), (x.2.1, x.2.2.1, ()))) (fun x => .sum (.leaf (List Row) (fun t => (Ex.ret, { tm := [(4, V.own 300000 0)], mem := [(300000, Cell.arr false true 0 1 t)] }))) (.leaf (Int) (fun t => (Ex.exit 0, { tm := [(0, V.d (D.sl false 5 x.1.1)), (1, V.d (D.sl false 5 x.1.2.1)), (5, V.own 300000 0), (6, V.own 300001 0), (26, V.d (D.int IntKind.i64 x.1.2.2.2.2.1)), (27, V.d (D.int IntKind.i64 t)), (28, V.d (D.bool false))], mem := [(300000, Cell.arr false true 0 1 x.2.1), (300001, Cell.arr false true 0 1 x.2.2.1)] })))) (fun x => M.impl_FirstApart_l5_C x.1.1 x.1.2.1 x.1.2.2.2.2.1 x.2.1 x.2.2.1) [fe C.impl_PathOf] [] (by rintro _ _ _ _ _ <;> simp only [M.impl_FirstApart_l5_C, nb] <;> rfl)
def M.impl_FirstApart_C {R : Type} (a : List Row) (b : List Row) (k : List Row → Option R) : Option R :=
  (M.impl_ShapeOk a).bind fun r331 =>
   (bif !r331 then (k []) else
    ((M.impl_ShapeOk b).bind fun r332 =>
     (bif !r332 then (k []) else
      ((M.impl_Preorder a).bind fun r333 =>
       ((M.impl_Preorder b).bind fun r334 =>
        ((M.impl_FirstApart_l5 a b (bif decide ((↑r334.length : Int) < (↑r333.length : Int)) then (↑r334.length : Int) else (↑r333.length : Int)) r333 r334 0).bind fun u375 =>
        sumE u375 (fun t373 => (bif flatRows t373 then (k t373) else none)) fun u376 =>
         letE u376 fun t374 => (k [])))))))
def M.impl_FirstApart (a : List Row) (b : List Row) : Option (List Row) := M.impl_FirstApart_C a b some
theorem C.impl_FirstApart : S.impl_FirstApart.ok X0 fun x => M.impl_FirstApart x.1.1 x.1.2.1 := fnS (fun x => M.impl_FirstApart_C x.1.1 x.1.2.1) [fe C.impl_ShapeOk, fe C.impl_Preorder] [F.impl_FirstApart_l5] (by intros; simp only [M.impl_FirstApart_C, nb] <;> rfl)
def M.spec_NodeBy_l5_C {R : Type} (l : List Row) (path : List Row) (s : Int × Int) (kn : Int × Int → Option R) (ke : (Unit) ⊕ (Int × Int) → Option R) : Option R := match s with
  | (i, k') =>
    bif decide (k' < (↑path.length : Int)) then
     ((idx path k').bind fun row379 =>
      ((cInt IntKind.i64 row379 0).bind fun n380 =>
       ((idx l i).bind fun row381 =>
        ((cSl 1 row381 4).bind fun rows382 =>
         ((M.spec_l1In n380 0 (IntKind.i64.wrap ((↑rows382.length : Int) - 1))).bind fun r383 =>
          (bif !r383 then (ke (.inl ())) else
           ((idx l i).bind fun row384 =>
            ((cSl 1 row384 4).bind fun rows385 =>
             ((idx path k').bind fun row386 =>
              ((cInt IntKind.i64 row386 0).bind fun n387 =>
               ((idx rows385 n387).bind fun row388 => ((cInt IntKind.i64 row388 0).bind fun n389 => (kn ((n389, IntKind.i64.wrap (k' + 1)))))))))))))))) else (ke (.inr ((i, k'))))
def M.spec_NodeBy_l5_b (l : List Row) (path : List Row) (s : Int × Int) := M.spec_NodeBy_l5_C l path s (fun s => some (Sum.inl s)) fun t => some (Sum.inr t)
def M.spec_NodeBy_l5 (l : List Row) (path : List Row) (s : Int × Int) : Option ((Unit) ⊕ (Int × Int)) := loopM (M.spec_NodeBy_l5_b l path) s
def F.spec_NodeBy_l5 : LE X0 14 := le 5 (pSt [pAt 0 (pL false 5), pAt 1 (pL false 1), pAt 5 pI, pAt 6 pI] []) (fun x => (x.1.2.2.1, x.1.2.2.2.1)) (fun x s => ((x.1.1, x.1.2.1, s.1, s.2, ()), ())) (fun x => .sum (.leaf (Unit) (fun t => (Ex.ret, { tm := [(4, V.d (D.int IntKind.i64 (-1)))], mem := [] }))) (.leaf (Int × Int) (fun t => (Ex.exit 0, { tm := [(0, V.d (D.sl false 5 x.1.1)), (1, V.d (D.sl false 1 x.1.2.1)), (5, V.d (D.int IntKind.i64 t.fst)), (6, V.d (D.int IntKind.i64 t.snd)), (16, V.d (D.bool false))], mem := [] })))) (fun x => M.spec_NodeBy_l5_C x.1.1 x.1.2.1) [fe C.spec_l1In] [] (by rintro _ _ ⟨_, _⟩ _ _ <;> simp only [M.spec_NodeBy_l5_C, nb] <;> rfl)
def M.spec_NodeBy_C {R : Type} (l : List Row) (path : List Row) (k : Int → Option R) : Option R :=
  (M.spec_ShapeOk l).bind fun r378 =>
   (bif !r378 then (k (-1)) else
    ((M.spec_NodeBy_l5 l path ((IntKind.i64.wrap ((↑l.length : Int) - 1), 0))).bind fun u392 =>
    sumE u392 (fun t390 => (k (-1))) fun u393 =>
     letE u393 fun t391 => (k t391.fst)))
def M.spec_NodeBy (l : List Row) (path : List Row) : Option (Int) := M.spec_NodeBy_C l path some
theorem C.spec_NodeBy : S.spec_NodeBy.ok X0 fun x => M.spec_NodeBy x.1.1 x.1.2.1 := fnS (fun x => M.spec_NodeBy_C x.1.1 x.1.2.1) [fe C.spec_ShapeOk] [F.spec_NodeBy_l5] (by intros; simp only [M.spec_NodeBy_C, nb] <;> rfl)
def M.spec_l6Part_C {R : Type} (l : List Row) (i : Int) (k : List Row → Option R) : Option R :=
  (M.spec_l6Starts l).bind fun r402 =>
   ((idx r402.fst i).bind fun row403 =>
    (r402.fst[i.toNat]?.bind fun row404 =>
     ((cInt IntKind.i64 row404 0).bind fun n405 =>
      ((cut l n405 (IntKind.i64.wrap (i + 1))).bind fun rows406 =>
       ((idx r402.fst i).bind fun row407 =>
        (r402.fst[i.toNat]?.bind fun row408 =>
         ((cInt IntKind.i64 row408 0).bind fun n409 => ((M.spec_l6Shift rows406 (IntKind.i64.wrap (0 - n409))).bind fun r410 => (k r410)))))))))
def M.spec_l6Part (l : List Row) (i : Int) : Option (List Row) := M.spec_l6Part_C l i some
theorem C.spec_l6Part : S.spec_l6Part.ok X0 fun x => M.spec_l6Part x.1.1 x.1.2.1 := fnS (fun x => M.spec_l6Part_C x.1.1 x.1.2.1) [fe C.spec_l6Starts, fe C.spec_l6Shift] [] (by intros; simp only [M.spec_l6Part_C, nb] <;> rfl)
def M.spec_Part_C {R : Type} (l : List Row) (i : Int) (k : List Row → Option R) : Option R :=
  (M.spec_ShapeOk l).bind fun r400 =>
   (bif !r400 then (k []) else
    ((M.spec_l1In i 0 (IntKind.i64.wrap ((↑l.length : Int) - 1))).bind fun r401 => (bif !r401 then (k []) else ((M.spec_l6Part l i).bind fun r411 => (k r411)))))
def M.spec_Part (l : List Row) (i : Int) : Option (List Row) := M.spec_Part_C l i some
theorem C.spec_Part : S.spec_Part.ok X0 fun x => M.spec_Part x.1.1 x.1.2.1 := fnS (fun x => M.spec_Part_C x.1.1 x.1.2.1) [fe C.spec_ShapeOk, fe C.spec_l1In, fe C.spec_l6Part] [] (by intros; simp only [M.spec_Part_C, nb] <;> rfl)
def M.spec_l6Ints_l4_C {R : Type} (a : List Row) (b : List Row) (s : Int) (kn : Int → Option R) (ke : (Unit) ⊕ (Int) → Option R) : Option R := match s with
  | i =>
    bif decide (i < (↑a.length : Int)) then
     ((idx a i).bind fun row434 =>
      ((cInt IntKind.i64 row434 0).bind fun n435 =>
       ((idx b i).bind fun row436 =>
        ((cInt IntKind.i64 row436 0).bind fun n437 => (bif n435 != n437 then (ke (.inl ())) else (kn (IntKind.i64.wrap (i + 1)))))))) else (ke (.inr i))
def M.spec_l6Ints_l4_b (a : List Row) (b : List Row) (s : Int) := M.spec_l6Ints_l4_C a b s (fun s => some (Sum.inl s)) fun t => some (Sum.inr t)
def M.spec_l6Ints_l4 (a : List Row) (b : List Row) (s : Int) : Option ((Unit) ⊕ (Int)) := loopM (M.spec_l6Ints_l4_b a b) s
def F.spec_l6Ints_l4 : LE X0 32 := le 4 (pSt [pAt 0 (pL false 1), pAt 1 (pL false 1), pAt 5 pI] []) (fun x => x.1.2.2.1) (fun x s => ((x.1.1, x.1.2.1, s, ()), ())) (fun x => .sum (.leaf (Unit) (fun t => (Ex.ret, { tm := [(4, V.d (D.bool false))], mem := [] }))) (.leaf (Int) (fun t => (Ex.exit 0, { tm := [(0, V.d (D.sl false 1 x.1.1)), (1, V.d (D.sl false 1 x.1.2.1)), (5, V.d (D.int IntKind.i64 t)), (14, V.d (D.bool false))], mem := [] })))) (fun x => M.spec_l6Ints_l4_C x.1.1 x.1.2.1) [] [] (by rintro _ _ _ _ _ <;> simp only [M.spec_l6Ints_l4_C, nb] <;> rfl)
def M.spec_l6Ints_C {R : Type} (a : List Row) (b : List Row) (k : Bool → Option R) : Option R :=
  bif (↑a.length : Int) != (↑b.length : Int) then (k false) else
   ((M.spec_l6Ints_l4 a b 0).bind fun u440 =>
   sumE u440 (fun t438 => (k false)) fun u441 =>
    letE u441 fun t439 => (k true))
def M.spec_l6Ints (a : List Row) (b : List Row) : Option (Bool) := M.spec_l6Ints_C a b some
theorem C.spec_l6Ints : S.spec_l6Ints.ok X0 fun x => M.spec_l6Ints x.1.1 x.1.2.1 := fnS (fun x => M.spec_l6Ints_C x.1.1 x.1.2.1) [] [F.spec_l6Ints_l4] (by intros; simp only [M.spec_l6Ints_C, nb] <;> rfl)
def M.spec_SameTree_l4_C {R : Type} (a : List Row) (b : List Row) (s : Int) (kn : Int → Option R) (ke : (Unit) ⊕ (Int) → Option R) : Option R := match s with
  | i =>
    bif decide (i < (↑a.length : Int)) then
     ((idx a i).bind fun row414 =>
      ((cInt IntKind.i64 row414 0).bind fun n415 =>
       ((idx b i).bind fun row416 =>
        ((cInt IntKind.i64 row416 0).bind fun n417 =>
         (bif n415 != n417 then (ke (.inl ())) else
          ((idx a i).bind fun row418 =>
           ((cInt IntKind.i64 row418 1).bind fun n419 =>
            ((idx b i).bind fun row420 =>
             ((cInt IntKind.i64 row420 1).bind fun n421 =>
              (bif n419 != n421 then (ke (.inl ())) else
               ((idx a i).bind fun row422 =>
                ((cStr row422 2).bind fun s423 =>
                 ((idx b i).bind fun row424 =>
                  ((cStr row424 2).bind fun s425 =>
                   (bif !s423 == s425 then (ke (.inl ())) else
                    ((idx a i).bind fun row426 =>
                     ((cStr row426 3).bind fun s427 =>
                      ((idx b i).bind fun row428 =>
                       ((cStr row428 3).bind fun s429 =>
                        (bif !s427 == s429 then (ke (.inl ())) else
                         ((idx a i).bind fun row430 =>
                          ((cSl 1 row430 4).bind fun rows431 =>
                           ((idx b i).bind fun row432 =>
                            ((cSl 1 row432 4).bind fun rows433 =>
                             ((M.spec_l6Ints rows431 rows433).bind fun r442 => (bif !r442 then (ke (.inl ())) else (kn (IntKind.i64.wrap (i + 1))))))))))))))))))))))))))))) else (ke (.inr i))
def M.spec_SameTree_l4_b (a : List Row) (b : List Row) (s : Int) := M.spec_SameTree_l4_C a b s (fun s => some (Sum.inl s)) fun t => some (Sum.inr t)
def M.spec_SameTree_l4 (a : List Row) (b : List Row) (s : Int) : Option ((Unit) ⊕ (Int)) := loopM (M.spec_SameTree_l4_b a b) s
def F.spec_SameTree_l4 : LE X0 15 := le 4 (pSt [pAt 0 (pL false 5), pAt 1 (pL false 5), pAt 5 pI] []) (fun x => x.1.2.2.1) (fun x s => ((x.1.1, x.1.2.1, s, ()), ())) (fun x => .sum (.leaf (Unit) (fun t => (Ex.ret, { tm := [(4, V.d (D.bool false))], mem := [] }))) (.leaf (Int) (fun t => (Ex.exit 0, { tm := [(0, V.d (D.sl false 5 x.1.1)), (1, V.d (D.sl false 5 x.1.2.1)), (5, V.d (D.int IntKind.i64 t)), (14, V.d (D.bool false))], mem := [] })))) (fun x => M.spec_SameTree_l4_C x.1.1 x.1.2.1) [fe C.spec_l6Ints] [] (by rintro _ _ _ _ _ <;> simp only [M.spec_SameTree_l4_C, nb] <;> rfl)
def M.spec_SameTree_C {R : Type} (a : List Row) (b : List Row) (k : Bool → Option R) : Option R :=
  bif (↑a.length : Int) != (↑b.length : Int) then (k false) else
   ((M.spec_SameTree_l4 a b 0).bind fun u445 =>
   sumE u445 (fun t443 => (k false)) fun u446 =>
    letE u446 fun t444 => (k true))
def M.spec_SameTree (a : List Row) (b : List Row) : Option (Bool) := M.spec_SameTree_C a b some
theorem C.spec_SameTree : S.spec_SameTree.ok X0 fun x => M.spec_SameTree x.1.1 x.1.2.1 := fnS (fun x => M.spec_SameTree_C x.1.1 x.1.2.1) [] [F.spec_SameTree_l4] (by intros; simp only [M.spec_SameTree_C, nb] <;> rfl)
def M.spec_l44Apart_l6_C {R : Type} (rec_spec_l44Apart : List Row → Int → List Row → Int → Option (List Row × Bool)) (a : List Row) (b : List Row) (x' : Int) (x'1 : Int) (x'2 : List UInt8) (x'3 : List UInt8) (x'4 : List Row) (x'5 : Int) (x'6 : Int) (x'7 : List UInt8) (x'8 : List UInt8) (x'9 : List Row) (s : Int) (kn : Int → Option R) (ke : (List Row) ⊕ (Int) → Option R) : Option R := match s with
  | k' =>
    bif decide (k' < (↑x'4.length : Int)) then
     ((idx x'4 k').bind fun row463 =>
      ((cInt IntKind.i64 row463 0).bind fun n464 =>
       ((idx x'9 k').bind fun row465 =>
        ((cInt IntKind.i64 row465 0).bind fun n466 =>
         ((rec_spec_l44Apart a n464 b n466).bind fun r467 =>
          (bif r467.snd then
           (bif (([[D.int IntKind.i64 k']].length + r467.fst.length) * 8).ble 140737488355328 then
            (bif ([[D.int IntKind.i64 k']].length + r467.fst.length).ble 140737488355328 then (ke (.inl ([[D.int IntKind.i64 k']] ++ r467.fst))) else none) else none) else (kn (IntKind.i64.wrap (k' + 1))))))))) else (ke (.inr k'))
def M.spec_l44Apart_l6_b (rec_spec_l44Apart : List Row → Int → List Row → Int → Option (List Row × Bool)) (a : List Row) (b : List Row) (x' : Int) (x'1 : Int) (x'2 : List UInt8) (x'3 : List UInt8) (x'4 : List Row) (x'5 : Int) (x'6 : Int) (x'7 : List UInt8) (x'8 : List UInt8) (x'9 : List Row) (s : Int) := M.spec_l44Apart_l6_C rec_spec_l44Apart a b x' x'1 x'2 x'3 x'4 x'5 x'6 x'7 x'8 x'9 s (fun s => some (Sum.inl s)) fun t => some (Sum.inr t)
def M.spec_l44Apart_l6 (rec_spec_l44Apart : List Row → Int → List Row → Int → Option (List Row × Bool)) (a : List Row) (b : List Row) (x' : Int) (x'1 : Int) (x'2 : List UInt8) (x'3 : List UInt8) (x'4 : List Row) (x'5 : Int) (x'6 : Int) (x'7 : List UInt8) (x'8 : List UInt8) (x'9 : List Row) (s : Int) : Option ((List Row) ⊕ (Int)) := loopM (M.spec_l44Apart_l6_b rec_spec_l44Apart a b x' x'1 x'2 x'3 x'4 x'5 x'6 x'7 x'8 x'9) s
def F.spec_l44Apart_l6 {rec_spec_l44Apart : List Row → Int → List Row → Int → Option (List Row × Bool)} (h_spec_l44Apart : S.spec_l44Apart.ok X0 fun x => rec_spec_l44Apart x.1.1 x.1.2.1 x.1.2.2.1 x.1.2.2.2.1) : LE X0 34 := le 6 (pSt [pAt 0 (pL false 5), pAt 2 (pL false 5), pAt 10 (pP 300000 0), pAt 11 (pP 300001 0), pAt 12 pI] [pAt 300000 (cB 49 [pI, pI, pS, pS, pL false 1]), pAt 300001 (cB 49 [pI, pI, pS, pS, pL false 1])]) (fun x => x.1.2.2.2.2.1) (fun x s => ((x.1.1, x.1.2.1, (), (), s, ()), ((x.2.1.1, x.2.1.2.1, x.2.1.2.2.1, x.2.1.2.2.2.1, x.2.1.2.2.2.2.1, ()), (x.2.2.1.1, x.2.2.1.2.1, x.2.2.1.2.2.1, x.2.2.1.2.2.2.1, x.2.2.1.2.2.2.2.1, ()), ()))) (fun x => .sum (.leaf (List Row) (fun t => (Ex.ret, { tm := [(8, V.own 300000 0), (9, V.d (D.bool true))], mem := [(300000, Cell.arr false true 0 1 t)] }))) (.leaf (Int) (fun t => (Ex.exit 0, { tm := [(0, V.d (D.sl false 5 x.1.1)), (2, V.d (D.sl false 5 x.1.2.1)), (10, V.ptr 300000 0), (11, V.ptr 300001 0), (12, V.d (D.int IntKind.i64 t)), (63, V.d (D.bool false))], mem := [(300000, Cell.box 49 [V.d (D.int IntKind.i64 x.2.1.1), V.d (D.int IntKind.i64 x.2.1.2.1), V.d (D.str x.2.1.2.2.1), V.d (D.str x.2.1.2.2.2.1), V.d (D.sl false 1 x.2.1.2.2.2.2.1)]), (300001, Cell.box 49 [V.d (D.int IntKind.i64 x.2.2.1.1), V.d (D.int IntKind.i64 x.2.2.1.2.1), V.d (D.str x.2.2.1.2.2.1), V.d (D.str x.2.2.1.2.2.2.1), V.d (D.sl false 1 x.2.2.1.2.2.2.2.1)])] })))) (fun x => M.spec_l44Apart_l6_C rec_spec_l44Apart x.1.1 x.1.2.1 x.2.1.1 x.2.1.2.1 x.2.1.2.2.1 x.2.1.2.2.2.1 x.2.1.2.2.2.2.1 x.2.2.1.1 x.2.2.1.2.1 x.2.2.1.2.2.1 x.2.2.1.2.2.2.1 x.2.2.1.2.2.2.2.1) [fe h_spec_l44Apart] [] (by rintro _ _ _ _ _ <;> simp only [M.spec_l44Apart_l6_C, nb] <;> rfl)
def M.spec_l44Apart_C {R : Type} (rec_spec_l44Apart : List Row → Int → List Row → Int → Option (List Row × Bool)) (a : List Row) (i : Int) (b : List Row) (j : Int) (k : List Row × Bool → Option R) : Option R :=
  (idx a i).bind fun row451 =>
   ((cInt IntKind.i64 row451 0).bind fun n452 =>
    ((cInt IntKind.i64 row451 1).bind fun n453 =>
     ((cStr row451 2).bind fun s454 =>
      ((cStr row451 3).bind fun s455 =>
       ((cSl 1 row451 4).bind fun rows456 =>
        ((idx b j).bind fun row457 =>
         ((cInt IntKind.i64 row457 0).bind fun n458 =>
          ((cInt IntKind.i64 row457 1).bind fun n459 =>
           ((cStr row457 2).bind fun s460 =>
            ((cStr row457 3).bind fun s461 =>
             ((cSl 1 row457 4).bind fun rows462 =>
              (bif n452 != n458 then (k (([], true))) else
               (bif n453 != n459 then (k (([], true))) else
                (bif !s454 == s460 then (k (([], true))) else
                 (bif !s455 == s461 then (k (([], true))) else
                  (bif (↑rows456.length : Int) != (↑rows462.length : Int) then (k (([], true))) else
                   ((M.spec_l44Apart_l6 rec_spec_l44Apart a b n452 n453 s454 s455 rows456 n458 n459 s460 s461 rows462 0).bind fun u470 =>
                   sumE u470 (fun t468 => (bif flatRows t468 then (k ((t468, true))) else none)) fun u471 =>
                    letE u471 fun t469 => (k (([], false))))))))))))))))))))
def M.spec_l44Apart_N : Nat → List Row → Int → List Row → Int → Option (List Row × Bool)
  | 0 => fun _ _ _ _ => none
  | n + 1 => fun a i b j => M.spec_l44Apart_C (M.spec_l44Apart_N n) a i b j some
def M.spec_l44Apart (a : List Row) (i : Int) (b : List Row) (j : Int) : Option (List Row × Bool) := lim fun n => M.spec_l44Apart_N n a i b j
theorem C.spec_l44Apart_r1 {rec_spec_l44Apart : List Row → Int → List Row → Int → Option (List Row × Bool)} (h_spec_l44Apart : S.spec_l44Apart.ok X0 fun x => rec_spec_l44Apart x.1.1 x.1.2.1 x.1.2.2.1 x.1.2.2.2.1) : S.spec_l44Apart.ok X0 fun x => M.spec_l44Apart_C rec_spec_l44Apart x.1.1 x.1.2.1 x.1.2.2.1 x.1.2.2.2.1 some := fnS (fun x => M.spec_l44Apart_C rec_spec_l44Apart x.1.1 x.1.2.1 x.1.2.2.1 x.1.2.2.2.1) [] [F.spec_l44Apart_l6 h_spec_l44Apart] (by intros; simp only [M.spec_l44Apart_C, nb] <;> rfl)
theorem C.spec_l44Apart_N : ∀ n, S.spec_l44Apart.ok X0 fun x => M.spec_l44Apart_N n x.1.1 x.1.2.1 x.1.2.2.1 x.1.2.2.2.1
  | 0 => Sig.zero
  | n + 1 => C.spec_l44Apart_r1 (C.spec_l44Apart_N n)
theorem C.spec_l44Apart : S.spec_l44Apart.ok X0 fun x => M.spec_l44Apart x.1.1 x.1.2.1 x.1.2.2.1 x.1.2.2.2.1 := Sig.lim C.spec_l44Apart_N
theorem M.spec_l44Apart_of {n : Nat} {a : List Row} {i : Int} {b : List Row} {j : Int} {r : List Row × Bool} (h : M.spec_l44Apart_N n a i b j = some r) : M.spec_l44Apart a i b j = some r :=
  Sig.lim_of C.spec_l44Apart_N (by intro a b h; simp [S.spec_l44Apart, sg] at h; first | exact h | simp [Prod.ext_iff, h]) (x := ((a, i, b, j, ()), ())) h
def M.spec_FirstApart_C {R : Type} (a : List Row) (b : List Row) (k : List Row → Option R) : Option R :=
  (M.spec_ShapeOk a).bind fun r449 =>
   (bif !r449 then (k []) else
    ((M.spec_ShapeOk b).bind fun r450 =>
     (bif !r450 then (k []) else
      ((M.spec_l44Apart a (IntKind.i64.wrap ((↑a.length : Int) - 1)) b (IntKind.i64.wrap ((↑b.length : Int) - 1))).bind fun r472 => (bif flatRows r472.fst then (k r472.fst) else none)))))
def M.spec_FirstApart (a : List Row) (b : List Row) : Option (List Row) := M.spec_FirstApart_C a b some
theorem C.spec_FirstApart : S.spec_FirstApart.ok X0 fun x => M.spec_FirstApart x.1.1 x.1.2.1 := fnS (fun x => M.spec_FirstApart_C x.1.1 x.1.2.1) [fe C.spec_ShapeOk, fe C.spec_l44Apart] [] (by intros; simp only [M.spec_FirstApart_C, nb] <;> rfl)
def M.laws_sameInts_l4_C {R : Type} (a : List Row) (b : List Row) (s : Int) (kn : Int → Option R) (ke : (Unit) ⊕ (Int) → Option R) : Option R := match s with
  | i =>
    bif decide (i < (↑a.length : Int)) then
     ((idx a i).bind fun row474 =>
      ((cInt IntKind.i64 row474 0).bind fun n475 =>
       ((idx b i).bind fun row476 =>
        ((cInt IntKind.i64 row476 0).bind fun n477 => (bif n475 != n477 then (ke (.inl ())) else (kn (IntKind.i64.wrap (i + 1)))))))) else (ke (.inr i))
def M.laws_sameInts_l4_b (a : List Row) (b : List Row) (s : Int) := M.laws_sameInts_l4_C a b s (fun s => some (Sum.inl s)) fun t => some (Sum.inr t)
def M.laws_sameInts_l4 (a : List Row) (b : List Row) (s : Int) : Option ((Unit) ⊕ (Int)) := loopM (M.laws_sameInts_l4_b a b) s
def F.laws_sameInts_l4 : LE X0 17 := le 4 (pSt [pAt 0 (pL false 1), pAt 1 (pL false 1), pAt 5 pI] []) (fun x => x.1.2.2.1) (fun x s => ((x.1.1, x.1.2.1, s, ()), ())) (fun x => .sum (.leaf (Unit) (fun t => (Ex.ret, { tm := [(4, V.d (D.bool false))], mem := [] }))) (.leaf (Int) (fun t => (Ex.exit 0, { tm := [(0, V.d (D.sl false 1 x.1.1)), (1, V.d (D.sl false 1 x.1.2.1)), (5, V.d (D.int IntKind.i64 t)), (14, V.d (D.bool false))], mem := [] })))) (fun x => M.laws_sameInts_l4_C x.1.1 x.1.2.1) [] [] (by rintro _ _ _ _ _ <;> simp only [M.laws_sameInts_l4_C, nb] <;> rfl)
def M.laws_sameInts_C {R : Type} (a : List Row) (b : List Row) (k : Bool → Option R) : Option R :=
  bif (↑a.length : Int) != (↑b.length : Int) then (k false) else
   ((M.laws_sameInts_l4 a b 0).bind fun u480 =>
   sumE u480 (fun t478 => (k false)) fun u481 =>
    letE u481 fun t479 => (k true))
def M.laws_sameInts (a : List Row) (b : List Row) : Option (Bool) := M.laws_sameInts_C a b some
theorem C.laws_sameInts : S.laws_sameInts.ok X0 fun x => M.laws_sameInts x.1.1 x.1.2.1 := fnS (fun x => M.laws_sameInts_C x.1.1 x.1.2.1) [] [F.laws_sameInts_l4] (by intros; simp only [M.laws_sameInts_C, nb] <;> rfl)
def M.laws_FnPaths_l11_C {R : Type} (code : List Row) (l : List Row) (x' : List Row) (s : Int) (kn : Int → Option R) (ke : (Unit) ⊕ (Int) → Option R) : Option R := match s with
  | k' =>
    bif decide (k' < (↑l.length : Int)) then
     ((M.laws_has x' k').bind fun r314 => (bif !r314 then (ke (.inl ())) else (kn (IntKind.i64.wrap (k' + 1))))) else (ke (.inr k'))
def M.laws_FnPaths_l11_b (code : List Row) (l : List Row) (x' : List Row) (s : Int) := M.laws_FnPaths_l11_C code l x' s (fun s => some (Sum.inl s)) fun t => some (Sum.inr t)
def M.laws_FnPaths_l11 (code : List Row) (l : List Row) (x' : List Row) (s : Int) : Option ((Unit) ⊕ (Int)) := loopM (M.laws_FnPaths_l11_b code l x') s
def F.laws_FnPaths_l11 : LE X0 3 := le 11 (pSt [pAt 0 (pL false 1), pAt 3 (pL false 5), pAt 6 (pO 300000 0), pAt 7 pI] [pAt 300000 (cA false true 0 1)]) (fun x => x.1.2.2.2.1) (fun x s => ((x.1.1, x.1.2.1, (), s, ()), (x.2.1, ()))) (fun x => .sum (.leaf (Unit) (fun t => (Ex.ret, { tm := [(2, V.d (D.bool false))], mem := [] }))) (.leaf (Int) (fun t => (Ex.exit 0, { tm := [(0, V.d (D.sl false 1 x.1.1)), (3, V.d (D.sl false 5 x.1.2.1)), (6, V.own 300000 0), (7, V.d (D.int IntKind.i64 t)), (72, V.d (D.bool false))], mem := [(300000, Cell.arr false true 0 1 x.2.1)] })))) (fun x => M.laws_FnPaths_l11_C x.1.1 x.1.2.1 x.2.1) [fe C.laws_has] [] (by rintro _ _ _ _ _ <;> simp only [M.laws_FnPaths_l11_C, nb] <;> rfl)
def M.laws_FnPaths_C {R : Type} (code : List Row) (k : Bool → Option R) : Option R :=
  (M.laws_big code).bind fun r0 =>
   (bif r0 then (k true) else
    ((M.spec_DrawPathOf code).bind fun r227 =>
     ((M.impl_PathOf (fzRows r227.snd.fst) r227.snd.snd).bind fun r241 =>
      ((M.spec_ShapeOk (fzRows r227.snd.fst)).bind fun r264 =>
       (bif !r264 then (k ((↑r241.length : Int) == 0)) else
        (bif decide (r227.snd.snd < 0) then (k ((↑r241.length : Int) == 0)) else
         (bif decide (r227.snd.snd ≥ (↑(fzRows r227.snd.fst).length : Int)) then (k ((↑r241.length : Int) == 0)) else
          ((M.impl_Preorder (fzRows r227.snd.fst)).bind fun r273 =>
           ((M.impl_NodeBy (fzRows r227.snd.fst) r241).bind fun r288 =>
            (bif r288 != r227.snd.snd then (k false) else
             (bif (↑r273.length : Int) != (↑(fzRows r227.snd.fst).length : Int) then (k false) else
              ((idx r273 0).bind fun row289 =>
               (r273[0]?.bind fun row290 =>
                ((cInt IntKind.i64 row290 0).bind fun n291 =>
                 (bif n291 != IntKind.i64.wrap ((↑(fzRows r227.snd.fst).length : Int) - 1) then (k false) else
                  ((M.spec_DepthOf (fzRows r227.snd.fst)).bind fun r307 =>
                   (bif decide ((↑r241.length : Int) ≥ r307) then (k false) else
                    ((M.laws_FnPaths_l11 code (fzRows r227.snd.fst) r273 0).bind fun u483 =>
                    sumE u483 (fun t315 => (k false)) fun u484 =>
                     letE u484 fun t316 =>
                      ((M.spec_DrawFirstApart code).bind fun r330 =>
                       ((M.impl_FirstApart (fzRows r330.snd.fst) (fzRows r330.snd.snd.snd)).bind fun r377 =>
                        ((M.spec_NodeBy (fzRows r330.snd.fst) r377).bind fun r394 =>
                         ((M.spec_NodeBy (fzRows r330.snd.snd.snd) r377).bind fun r395 =>
                          (bif decide (r394 < 0) then
                           ((M.spec_ShapeOk (fzRows r330.snd.fst)).bind fun r396 =>
                            (bif !r396 then (k true) else ((M.spec_ShapeOk (fzRows r330.snd.snd.snd)).bind fun r397 => (k !r397)))) else
                           (bif decide (r395 < 0) then
                            ((M.spec_ShapeOk (fzRows r330.snd.fst)).bind fun r398 =>
                             (bif !r398 then (k true) else ((M.spec_ShapeOk (fzRows r330.snd.snd.snd)).bind fun r399 => (k !r399)))) else
                            ((M.spec_Part (fzRows r330.snd.fst) r394).bind fun r412 =>
                             ((M.spec_Part (fzRows r330.snd.snd.snd) r395).bind fun r413 =>
                              ((M.spec_SameTree (fzRows r412) (fzRows r413)).bind fun r447 =>
                               ((M.spec_SameTree (fzRows r330.snd.fst) (fzRows r330.snd.snd.snd)).bind fun r448 =>
                                (bif r447 == r448 then
                                 ((M.spec_FirstApart (fzRows r330.snd.fst) (fzRows r330.snd.snd.snd)).bind fun r473 => ((M.laws_sameInts r377 r473).bind fun r482 => (k r482))) else (k false))))))))))))))))))))))))))))))
def M.laws_FnPaths (code : List Row) : Option (Bool) := M.laws_FnPaths_C code some
theorem C.laws_FnPaths : S.laws_FnPaths.ok X0 fun x => M.laws_FnPaths x.1.1 := fnS (fun x => M.laws_FnPaths_C x.1.1) [fe C.laws_big, fe C.spec_DrawPathOf, fe C.impl_PathOf, fe C.spec_ShapeOk, fe C.impl_Preorder, fe C.impl_NodeBy, fe C.spec_DepthOf, fe C.spec_DrawFirstApart, fe C.impl_FirstApart, fe C.spec_NodeBy, fe C.spec_Part, fe C.spec_SameTree, fe C.spec_FirstApart, fe C.laws_sameInts] [F.laws_FnPaths_l11] (by intros; simp only [M.laws_FnPaths_C, nb] <;> rfl)
end
end Go.Proofs.Ytghbceiigeialaa
