/-
  The plain forms of the functions, and that they are what the functions come to.
-/
import Derived.Test.YtfbemlhfieemhaaVm3
import Derived.Test.YtfbemlhfieemhaaProg
import Derived.Test.YtfbemlhfieemhaaPrim
namespace Go.Proofs.Ytfbemlhfieemhaa
open Go Go.Vm
set_option linter.unusedVariables false
set_option linter.unusedSimpArgs false
def kp3 : List (List Nat) := [[0, 1], [0, 1, 11], [4], [0, 1, 5], [0, 1, 5], [0, 1, 16], [4], [0, 1, 6], [0, 1, 6, 7], [0, 6, 7, 8], [0, 7, 28], [4], [33], [4], [4]]
def kp4 : List (List Nat) := [[0], [0, 3], [0, 3], [0, 15], [2], [0, 4], [0, 4, 5], [0, 4, 5, 6], [0, 4, 5, 6, 26], [2], [0, 4, 5, 6, 31], [2], [0, 4, 5, 6, 7], [0, 4, 6, 7], [0, 4, 6, 42], [2], [0, 4, 6, 8], [0, 4, 6, 8], [0, 4, 6, 8, 9], [0, 4, 6, 8, 9], [0, 4, 6, 8, 9, 50], [2], [0, 4, 6, 8, 53], [2], [4, 6, 8, 10], [6, 8, 60], [2], [6, 8, 9], [8, 9], [8, 9, 65], [2], [68], [2], [2]]
def kp5 : List (List Nat) := [[0, 1], [0, 1, 12], [4], [0, 1, 5], [0, 1, 5], [0, 1, 17], [4], [0, 1, 6], [0, 1, 6, 7], [0, 1, 6, 7, 8], [0, 1, 6, 7, 8, 9], [0, 1, 7, 8, 32], [4], [1, 8, 37], [4], [42], [4], [4]]
def kp6 : List (List Nat) := [[0], [0, 3], [0, 3], [0, 15], [2], [0, 4], [0, 4, 5], [0, 4, 5, 6], [0, 4, 5, 6, 26], [2], [0, 4, 5, 6, 31], [2], [0, 4, 5, 6, 7], [0, 4, 6, 7], [0, 4, 6, 42], [2], [0, 4, 6, 8], [0, 4, 6, 8], [0, 4, 6, 8, 9], [0, 4, 6, 8, 9], [0, 4, 6, 8, 9, 50], [2], [0, 4, 6, 8, 53], [2], [4, 6, 8, 10], [6, 8, 60], [2], [6, 8, 9], [8, 9], [8, 9, 65], [2], [68], [2], [2]]
def kp7 : List (List Nat) := [[0, 1], [0, 1, 5], [0, 1, 5], [0, 1, 17], [4], [0, 1, 6], [0, 1, 6, 7], [0, 1, 6, 7, 8], [0, 1, 6, 7, 8, 30], [4], [0, 1, 6, 7, 8, 35], [4], [0, 1, 6, 7, 8, 9], [0, 1, 6, 8, 9], [0, 1, 6, 8, 46], [4], [0, 1, 6, 8, 10], [0, 1, 6, 8, 10], [0, 1, 6, 8, 10, 11], [0, 1, 6, 8, 10, 11], [0, 1, 6, 8, 10, 11, 54], [4], [0, 1, 6, 8, 10, 57], [4], [6, 8, 10, 12], [8, 10, 65], [4], [8, 10, 11], [10, 11], [10, 11, 70], [4], [73], [4], [4]]
def kp8 : List (List Nat) := [[0, 1], [0, 1, 5], [0, 1, 5], [0, 1, 5, 18], [4], [0, 1, 5], [0, 1, 23], [4], [0, 1, 6], [0, 1, 6, 7], [0, 1, 6, 7, 8], [0, 1, 6, 7, 8, 9], [0, 1, 6, 7, 8, 9, 39], [4], [0, 1, 6, 7, 8, 9, 44], [4], [0, 1, 6, 7, 8, 9, 49], [4], [0, 1, 6, 7, 8, 9, 10], [0, 1, 6, 8, 9, 10], [0, 1, 6, 9, 10], [0, 1, 6, 9, 63], [4], [0, 1, 6, 9, 11], [0, 1, 6, 9, 11], [0, 1, 6, 9, 11, 12], [0, 1, 6, 9, 11, 12], [0, 1, 6, 9, 11, 12, 71], [4], [0, 1, 6, 9, 11, 74], [4], [6, 9, 11, 13], [9, 11, 83], [4], [9, 11, 12], [11, 12], [11, 12, 88], [4], [91], [4], [4]]
def kp9 : List (List Nat) := [[0, 1], [0, 1], [0, 1, 11], [4], [0, 1, 5], [0, 1, 5, 15], [0, 1, 5], [0, 1, 5], [0, 1, 5, 25], [4], [4]]
def kp10 : List (List Nat) := [[0, 1], [0, 1, 5], [0, 1, 5, 11], [0, 1, 5], [0, 1, 5, 6], [0, 1, 5, 6, 26], [4], [0, 1, 5, 6, 55], [0, 1, 5, 7], [0, 1, 5, 71], [4], [4]]
def kp11 : List (List Nat) := [[0], [0, 3], [0, 3, 4], [0, 3, 4, 11], [0, 3, 4], [0, 3, 4], [2]]
def kp12 : List (List Nat) := [[0, 1], [0, 1, 7, 8, 9], [0, 1, 7, 8, 9, 10], [0, 1, 6, 7, 8, 9], [0, 1, 6, 7, 8, 9, 14], [0, 1, 6, 7, 8, 9, 14, 15], [0, 1, 6, 7, 8, 9, 14, 15], [0, 1, 6, 7, 8, 9, 14, 15], [0, 1, 7, 8, 9, 55], [4], [0, 1, 6, 7, 8, 9, 56], [0, 1, 7, 8, 9, 61], [4], [0, 1, 7, 8, 9], [4]]
def kp13 : List (List Nat) := [[0, 1], [0, 1, 10], [4], [0, 1, 5], [0, 1, 5, 14], [0, 1, 5], [0, 1, 5, 26], [4], [4]]
def kp14 : List (List Nat) := [[0, 1], [0, 1], [0, 1, 11], [4], [0, 1, 5], [0, 1, 5, 15], [0, 1, 5], [0, 1, 5], [0, 1, 5, 25], [4], [4]]
def kp15 : List (List Nat) := [[0], [0, 3], [0, 3, 4], [0, 3, 4, 8], [0, 3, 4], [0, 3, 4, 5], [0, 3, 4, 5, 14], [0, 3, 4, 5], [0, 3, 4, 5, 38], [0, 3, 4, 5], [2]]
def kp16 : List (List Nat) := [[0], [0, 3], [0, 3, 4], [0, 3, 4, 11], [0, 3, 4], [0, 3, 4], [2]]
def kp17 : List (List Nat) := [[0], [0, 3], [0, 3, 6], [0, 3, 6, 7], [0, 3, 4, 6], [0, 3, 4, 6, 11], [0, 3, 6], [0, 3, 6], [2]]
def kp18 : List (List Nat) := [[0, 1], [0, 1, 10], [4], [0, 1, 5], [0, 1, 5, 14], [0, 1, 5], [0, 1, 5, 25], [4], [4]]
def kp19 : List (List Nat) := [[0, 1], [0, 1, 10], [4], [0, 1, 5], [0, 1, 5, 14], [0, 1, 5], [0, 1, 5, 26], [4], [4]]
def kp20 : List (List Nat) := [[0, 1], [0, 1, 5], [0, 1, 5, 9], [0, 1, 5], [0, 1, 5], [0, 1, 5], [0, 1, 5], [0, 1, 5], [0, 1, 5], [0, 1, 5], [4]]
def kp21 : List (List Nat) := [[0, 1], [0, 1, 5], [0, 1, 5, 9], [0, 1, 5], [0, 1, 5], [0, 1, 5], [4]]
def kp22 : List (List Nat) := [[0, 1], [0, 1, 5], [0, 1, 5, 9], [0, 1, 5], [0, 1, 5, 17], [4], [0, 1, 5], [4]]
def kp23 : List (List Nat) := [[0, 1], [0, 1, 9], [4], [0, 1, 5], [0, 1, 5, 6], [0, 1, 5, 6, 16], [0, 1, 5, 6], [0, 1, 5, 6, 31], [4], [0, 1, 5, 6], [4]]
def kp24 : List (List Nat) := [[0], [0, 3], [0, 3, 4], [0, 3, 4, 11], [0, 3, 4], [0, 3, 4], [2]]
def kp25 : List (List Nat) := [[0, 1], [0, 1, 10], [4], [0, 1, 5], [0, 5, 14, 15, 16], [0, 5, 14, 15, 16, 17], [0, 5, 7, 14, 15, 16], [0, 5, 7, 14, 15, 16, 29], [4], [0, 5, 14, 15, 16], [0, 5, 14, 15, 16], [4]]
def kp26 : List (List Nat) := [[0], [0, 5], [2], [2]]
def kp27 : List (List Nat) := [[0], [0, 5], [2], [2]]
def kp28 : List (List Nat) := [[0, 1], [0, 1, 5], [0, 1, 5, 9], [0, 1, 5], [0, 1, 5], [0, 1, 5], [0, 1, 5], [0, 1, 5], [0, 1, 5], [0, 1, 5], [0, 1, 5], [0, 1, 5], [0, 1, 5], [4]]
def kp29 : List (List Nat) := [[0, 1], [0, 1, 5], [0, 1, 5, 19], [4], [0, 1, 5, 6], [0, 1, 5, 6, 25], [0, 1, 5, 6], [0, 1, 5, 6, 7], [0, 1, 5, 6, 7, 36], [0, 1, 5, 6, 7], [0, 1, 5, 6, 7, 48], [0, 1, 5, 6, 7], [0, 1, 5, 6], [4]]
def kp30 : List (List Nat) := [[0, 1], [0, 1, 17], [4], [5], [4]]
def kp31 : List (List Nat) := [[0, 1], [0, 1, 14], [4], [5], [4]]
def kp32 : List (List Nat) := [[0, 1], [0, 1, 17], [4], [0, 1, 5, 6], [0, 1, 5, 6, 26, 27], [0, 1, 5, 6, 26, 27, 28], [0, 1, 5, 6, 7, 26, 27], [0, 1, 5, 6, 7, 8, 9, 26, 27], [0, 1, 5, 6, 7, 26, 27, 78], [4], [0, 1, 5, 6, 26, 27], [4]]
def kp33 : List (List Nat) := [[1, 2], [1, 2], [1, 2, 11], [4], [1, 2], [1, 2, 18], [4], [1], [1, 24], [4], [4]]
def kp34 : List (List Nat) := [[0, 1, 2], [6]]
def kp35 : List (List Nat) := [[1, 2], [1, 2, 3], [1, 2, 3], [1, 2, 3], [1, 2, 3], [1, 2, 3], [2, 3], [2]]
def kp36 : List (List Nat) := [[0, 1, 2], [6]]
def kp37 : List (List Nat) := [[2, 3], [2, 3, 9], [4], [2, 3, 14], [4], [2, 3, 19], [4], [2, 3, 24], [4], [30], [4], [4]]
def kp38 : List (List Nat) := [[1, 2], [1], [1, 11], [4], [4]]
def kp39 : List (List Nat) := [[1, 2], [1, 2, 3], [1, 2, 3], [1, 2, 3], [2, 3], [2]]
def kp40 : List (List Nat) := [[0, 1], [4]]
def kp41 : List (List Nat) := [[1, 2], [3]]
def kp42 : List (List Nat) := [[2, 3], [2, 3, 9], [4], [2, 3, 14], [4], [19], [4], [4]]
def kp43 : List (List Nat) := [[0], [0, 5], [2], [0, 3], [0, 3, 7], [0, 3], [0, 3], [2]]
def kp44 : List (List Nat) := [[0], [0, 8], [2], [0, 3, 4], [2]]
def kp45 : List (List Nat) := [[0], [4], [2]]
def kp46 : List (List Nat) := [[0, 1], [0, 1, 5], [0, 1, 5, 6], [0, 1, 5, 6, 16], [0, 1, 5, 6], [0, 1, 5, 6], [4]]
def kp47 : List (List Nat) := [[0, 1, 2], [0, 1, 2], [0, 2, 17, 18, 19], [0, 2, 17, 18, 19, 20], [0, 2, 8, 17, 18, 19], [0, 2, 17, 18, 19], [0, 2, 17, 18, 19], [6]]
def kp48 : List (List Nat) := [[0, 1], [0, 1, 9], [4], [0, 1, 5], [0, 1, 5, 13], [0, 1, 5], [0, 1, 5, 6], [0, 1, 5, 6, 23], [0, 1, 5, 6], [0, 1, 5, 6, 35], [4], [4]]
def kp49 : List (List Nat) := [[0, 1, 2], [0, 1, 2, 14], [6, 7], [0, 2, 20, 21, 22], [0, 2, 20, 21, 22, 23], [0, 2, 8, 9, 20, 21, 22], [0, 2, 8, 10, 11, 20, 21, 22], [0, 2, 8, 10, 20, 21, 22, 34], [6, 7], [0, 2, 20, 21, 22], [6, 7]]
def kp50 : List (List Nat) := [[0, 1, 2, 3], [0, 2, 3, 10], [0, 2, 10, 11], [0, 2, 10, 11, 57], [8, 9], [0, 2, 10, 11, 12], [0, 2, 10, 11, 12, 63], [0, 2, 10, 11, 12], [0, 2, 10, 11, 12, 13, 14], [0, 2, 10, 11, 12, 13, 82], [8, 9], [8, 9]]
def kp51 : List (List Nat) := [[0, 1], [1], [1, 10], [4], [4]]
def kp52 : List (List Nat) := [[0, 1], [0, 1, 7, 8], [0, 1, 7, 8, 9], [0, 1, 5, 7, 8], [0, 1, 5, 7, 8, 16], [4], [0, 1, 7, 8], [4]]
def kp53 : List (List Nat) := [[0], [0, 4], [0, 4, 5], [0, 4, 5, 12], [0, 4, 5], [0, 4, 5, 6], [0, 4, 5, 6, 7], [0, 4, 5, 6, 7, 24], [0, 4, 5, 6, 7], [0, 4, 5, 6, 7, 41], [2, 3], [0, 4, 5, 6, 7], [0, 4, 5], [2, 3]]
def kp54 : List (List Nat) := [[0, 2, 3, 9, 30], [0, 2, 3, 9, 13, 30], [2, 3], [0, 2, 3, 4, 9, 30], [0, 2, 3, 4, 9, 17, 18, 19, 30], [0, 2, 3, 4, 9, 17, 18, 19, 20, 30], [0, 2, 3, 4, 5, 6, 9, 17, 18, 19, 30], [0, 2, 3, 4, 5, 6, 7, 9, 17, 18, 19, 30], [0, 2, 3, 4, 5, 7, 9, 17, 18, 19, 28, 30], [0, 2, 3, 4, 5, 7, 9, 17, 18, 19, 28, 30], [0, 2, 3, 4, 5, 7, 9, 17, 18, 19, 28, 30, 37], [2, 3], [0, 2, 3, 4, 5, 7, 9, 17, 18, 19, 28, 30], [0, 2, 3, 4, 9, 17, 18, 19, 30], [0, 2, 3, 4, 9, 17, 18, 19, 30], [2, 3]]
def kp55 : List (List Nat) := [[1], [2]]
def kp56 : List (List Nat) := [[0, 1, 3], [0, 1, 3, 8], [0, 1, 3], [0, 1, 3, 18]]
def keepT : List (List (List Nat)) := [[], [], [], kp3, kp4, kp5, kp6, kp7, kp8, kp9, kp10, kp11, kp12, kp13, kp14, kp15, kp16, kp17, kp18, kp19, kp20, kp21, kp22, kp23, kp24, kp25, kp26, kp27, kp28, kp29, kp30, kp31, kp32, kp33, kp34, kp35, kp36, kp37, kp38, kp39, kp40, kp41, kp42, kp43, kp44, kp45, kp46, kp47, kp48, kp49, kp50, kp51, kp52, kp53, kp54, kp55, kp56, [], [], [], [], [], [], [], [], [], [], [], [], [], [], [], []]
def refT : List (List Nat) := [[], [], [], [], [], [], [], [], [], [], [], [], [], [], [], [], [], [], [], [], [0], [0], [], [], [], [], [], [], [0]]
def moveT : List (List Nat) := [[], [], [], [], [], [], [], [], [], [], [], [], [], [], [], [], [], [], [], [], [], [], [], [], [], [], [], [], [], [], [], [], [], [], [], [], [], [], [], [], [], [], [], [], [], [], [], [2]]
def fuseT : List (List Nat) := [[], [], [], [], [], [], [], [], [], [], [], [], [], [], [], [], [], [], [], [], [], [], [], [], [], [], [], [], [0, 0, 0, 0, 0, 0, 0, 0, 0, 0, 0, 0, 5]]
noncomputable def adv : Adv := ⟨fun f r => (keepT.getD f []).getD r [], fun f => moveT.getD f [], fun f => refT.getD f [], fun _ _ => List.range 200, fun _ => [], fun f r => (fuseT.getD f []).getD r 0⟩
noncomputable def X0 : Ctx := ⟨Try.prog, adv, fun f => bif Nat.beq f 54 then some Prim.impl_startsOf else none⟩

/-! laws_szIntS -/
def H.laws_szIntS (o : List Row → Int → Option (Int)) : Prop := ∀ (a : List Row) (left : Int) (r : Int), o a left = some r → call X0 51 [V.d (D.sl false 1 a), V.d (D.int IntKind.i64 left)] [] = some ([[D.int IntKind.i64 r]], [])
def P.laws_szIntS (o : List Row → Int → Option (Int)) (q : List V → List Cell → Res (List Row × List Cell)) (a : List V) (c : List Cell) : Res (List Row × List Cell) := match a, c with
  | [V.d (D.sl false 1 a), V.d (D.int IntKind.i64 left)], [] => ⟨Int, o a left, fun r => ([[D.int IntKind.i64 r]], [])⟩
  | a, c => q a c
theorem P.laws_szIntS_ok {o : List Row → Int → Option (Int)} {q : List V → List Cell → Res (List Row × List Cell)} (h : H.laws_szIntS o) (hq : FnOk X0 51 q) : FnOk X0 51 (P.laws_szIntS o q) := by
  intro a c r hr
  unfold P.laws_szIntS at hr
  split at hr
  · obtain ⟨x, hx, rfl⟩ := Res.val_some hr
    exact h _ _ x hx
  · exact hq _ _ _ hr
noncomputable def M.laws_szIntS_C {R : Type} (a : List Row) (left : Int) (k : Int → Option R) : Option R :=
  bif decide (IntKind.i64.wrap (left - (↑a.length : Int)) < 0) then (k (-1)) else (k (IntKind.i64.wrap (left - (↑a.length : Int))))
noncomputable def M.laws_szIntS (a : List Row) (left : Int) : Option (Int) := M.laws_szIntS_C a left some
theorem M.laws_szIntS_n {R : Type} (a : List Row) (left : Int) (k : Int → Option R) : M.laws_szIntS_C a left k = (M.laws_szIntS_C a left some).bind k := by
  simp only [M.laws_szIntS_C, bif_bind, bind_bind, some_bind, none_bind, sumE_bind, optE_bind, letE_bind]
noncomputable def K.laws_szIntS : KonC := knil
noncomputable def L.laws_szIntS : LoopC := lnil
theorem E.laws_szIntS {R : Type} (a : List Row) (left : Int) (k : List Row → List Cell → Option R) : bodyC X0 (K.laws_szIntS) (L.laws_szIntS) 51 [V.d (D.sl false 1 a), V.d (D.int IntKind.i64 left)] [] k = M.laws_szIntS_C a left (fun r => k [[D.int IntKind.i64 r]] []) := by kernel_rfl
theorem LC.laws_szIntS : loops (codeOf X0.P 51) = [] := by kernel_rfl
theorem C.laws_szIntS : H.laws_szIntS (M.laws_szIntS) := by
  intro a left r h
  exact fn_sound (enc := fun r => ([[D.int IntKind.i64 r]], [])) (K := K.laws_szIntS) (L := L.laws_szIntS) (by kernel_rfl) knil_ok (by rw [LC.laws_szIntS]; exact LOk.nil) (by rw [E.laws_szIntS, M.laws_szIntS_n] <;> rfl) h

/-! laws_szNode -/
def H.laws_szNode (o : Int → Int → List UInt8 → List UInt8 → List Row → Int → Option (Int)) : Prop := ∀ (a : Int) (a1 : Int) (a2 : List UInt8) (a3 : List UInt8) (a4 : List Row) (left : Int) (r : Int), o a a1 a2 a3 a4 left = some r → call X0 33 [V.agg [V.d (D.int IntKind.i64 a), V.d (D.int IntKind.i64 a1), V.d (D.str a2), V.d (D.str a3), V.d (D.sl false 1 a4)], V.d (D.int IntKind.i64 left)] [] = some ([[D.int IntKind.i64 r]], [])
def P.laws_szNode (o : Int → Int → List UInt8 → List UInt8 → List Row → Int → Option (Int)) (q : List V → List Cell → Res (List Row × List Cell)) (a : List V) (c : List Cell) : Res (List Row × List Cell) := match a, c with
  | [V.agg [V.d (D.int IntKind.i64 a), V.d (D.int IntKind.i64 a1), V.d (D.str a2), V.d (D.str a3), V.d (D.sl false 1 a4)], V.d (D.int IntKind.i64 left)], [] => ⟨Int, o a a1 a2 a3 a4 left, fun r => ([[D.int IntKind.i64 r]], [])⟩
  | a, c => q a c
theorem P.laws_szNode_ok {o : Int → Int → List UInt8 → List UInt8 → List Row → Int → Option (Int)} {q : List V → List Cell → Res (List Row × List Cell)} (h : H.laws_szNode o) (hq : FnOk X0 33 q) : FnOk X0 33 (P.laws_szNode o q) := by
  intro a c r hr
  unfold P.laws_szNode at hr
  split at hr
  · obtain ⟨x, hx, rfl⟩ := Res.val_some hr
    exact h _ _ _ _ _ _ x hx
  · exact hq _ _ _ hr
noncomputable def M.laws_szNode_C {R : Type} (a : Int) (a1 : Int) (a2 : List UInt8) (a3 : List UInt8) (a4 : List Row) (left : Int) (k : Int → Option R) : Option R :=
  bif decide (IntKind.i64.wrap (left - (↑a2.length : Int)) < 0) then (k (-1)) else
   (bif decide (IntKind.i64.wrap (IntKind.i64.wrap (left - (↑a2.length : Int)) - (↑a3.length : Int)) < 0) then (k (-1)) else
    ((M.laws_szIntS a4 (IntKind.i64.wrap (IntKind.i64.wrap (left - (↑a2.length : Int)) - (↑a3.length : Int)))).bind fun r6 => (bif decide (r6 < 0) then (k (-1)) else (k r6))))
noncomputable def M.laws_szNode (a : Int) (a1 : Int) (a2 : List UInt8) (a3 : List UInt8) (a4 : List Row) (left : Int) : Option (Int) := M.laws_szNode_C a a1 a2 a3 a4 left some
theorem M.laws_szNode_n {R : Type} (a : Int) (a1 : Int) (a2 : List UInt8) (a3 : List UInt8) (a4 : List Row) (left : Int) (k : Int → Option R) : M.laws_szNode_C a a1 a2 a3 a4 left k = (M.laws_szNode_C a a1 a2 a3 a4 left some).bind k := by
  simp only [M.laws_szNode_C, bif_bind, bind_bind, some_bind, none_bind, sumE_bind, optE_bind, letE_bind]
noncomputable def K.laws_szNode : KonC := (kcons 51 (P.laws_szIntS M.laws_szIntS pnil) knil)
noncomputable def L.laws_szNode : LoopC := lnil
theorem E.laws_szNode {R : Type} (a : Int) (a1 : Int) (a2 : List UInt8) (a3 : List UInt8) (a4 : List Row) (left : Int) (k : List Row → List Cell → Option R) : bodyC X0 (K.laws_szNode) (L.laws_szNode) 33 [V.agg [V.d (D.int IntKind.i64 a), V.d (D.int IntKind.i64 a1), V.d (D.str a2), V.d (D.str a3), V.d (D.sl false 1 a4)], V.d (D.int IntKind.i64 left)] [] k = M.laws_szNode_C a a1 a2 a3 a4 left (fun r => k [[D.int IntKind.i64 r]] []) := by kernel_rfl
theorem LC.laws_szNode : loops (codeOf X0.P 33) = [] := by kernel_rfl
theorem C.laws_szNode : H.laws_szNode (M.laws_szNode) := by
  intro a a1 a2 a3 a4 left r h
  exact fn_sound (enc := fun r => ([[D.int IntKind.i64 r]], [])) (K := K.laws_szNode) (L := L.laws_szNode) (by kernel_rfl) (kcons_ok (P.laws_szIntS_ok C.laws_szIntS pnil_ok) knil_ok) (by rw [LC.laws_szNode]; exact LOk.nil) (by rw [E.laws_szNode, M.laws_szNode_n] <;> rfl) h

/-! laws_szNodeS -/
def H.laws_szNodeS (o : List Row → Int → Option (Int)) : Prop := ∀ (a : List Row) (left : Int) (r : Int), o a left = some r → call X0 9 [V.d (D.sl false 5 a), V.d (D.int IntKind.i64 left)] [] = some ([[D.int IntKind.i64 r]], [])
def P.laws_szNodeS (o : List Row → Int → Option (Int)) (q : List V → List Cell → Res (List Row × List Cell)) (a : List V) (c : List Cell) : Res (List Row × List Cell) := match a, c with
  | [V.d (D.sl false 5 a), V.d (D.int IntKind.i64 left)], [] => ⟨Int, o a left, fun r => ([[D.int IntKind.i64 r]], [])⟩
  | a, c => q a c
theorem P.laws_szNodeS_ok {o : List Row → Int → Option (Int)} {q : List V → List Cell → Res (List Row × List Cell)} (h : H.laws_szNodeS o) (hq : FnOk X0 9 q) : FnOk X0 9 (P.laws_szNodeS o q) := by
  intro a c r hr
  unfold P.laws_szNodeS at hr
  split at hr
  · obtain ⟨x, hx, rfl⟩ := Res.val_some hr
    exact h _ _ x hx
  · exact hq _ _ _ hr
noncomputable def M.laws_szNodeS_l5_C {R : Type} (a : List Row) (s : Int × Int) (kn : Int × Int → Option R) (ke : (Unit) ⊕ (Int × Int × Bool) → Option R) : Option R := match s with
  | (left, i) =>
    bif decide (i < (↑a.length : Int)) then
     ((idx a i).bind fun row0 =>
      ((cInt IntKind.i64 row0 0).bind fun n1 =>
       ((cInt IntKind.i64 row0 1).bind fun n2 =>
        ((cStr row0 2).bind fun s3 =>
         ((cStr row0 3).bind fun s4 =>
          ((cSl 1 row0 4).bind fun rows5 =>
           ((M.laws_szNode n1 n2 s3 s4 rows5 left).bind fun r7 => (bif decide (r7 < 0) then (ke (.inl ())) else (kn ((r7, IntKind.i64.wrap (i + 1)))))))))))) else (ke (.inr ((left, i, decide (i < (↑a.length : Int))))))
noncomputable def M.laws_szNodeS_l5_b (a : List Row) (s : Int × Int) : Option ((Int × Int) ⊕ ((Unit) ⊕ (Int × Int × Bool))) := M.laws_szNodeS_l5_C a s (fun s => some (.inl s)) (fun t => some (.inr t))
noncomputable def M.laws_szNodeS_l5 (a : List Row) (s : Int × Int) : Option ((Unit) ⊕ (Int × Int × Bool)) := loopM (M.laws_szNodeS_l5_b a) s
theorem M.laws_szNodeS_l5_n {R : Type} (a : List Row) (s : Int × Int) (kn : Int × Int → Option R) (ke : (Unit) ⊕ (Int × Int × Bool) → Option R) : M.laws_szNodeS_l5_C a s kn ke = (M.laws_szNodeS_l5_b a s).bind fun r => match r with | .inl s => kn s | .inr t => ke t := by
  obtain ⟨left, i⟩ := s
  all_goals
    simp only [M.laws_szNodeS_l5_b, M.laws_szNodeS_l5_C, bif_bind, bind_bind, some_bind, none_bind, sumE_bind, optE_bind, letE_bind]
def A.laws_szNodeS_l5 (a : List Row) : Alt (Ex × St) := .sum (.leaf (Unit) (fun t => (Ex.ret, { tm := [(4, V.d (D.int IntKind.i64 (-1)))], mem := [] }))) (.leaf (Int × Int × Bool) (fun t => (Ex.exit 0, { tm := [(0, V.d (D.sl false 5 a)), (1, V.d (D.int IntKind.i64 t.fst)), (5, V.d (D.int IntKind.i64 t.snd.fst)), (15, V.d (D.bool t.snd.snd))], mem := [] })))
def T.laws_szNodeS_l5 (a : List Row) (s : Int × Int) : St := match s with
  | (left, i) => { tm := [(0, V.d (D.sl false 5 a)), (1, V.d (D.int IntKind.i64 left)), (5, V.d (D.int IntKind.i64 i))], mem := [] }
noncomputable def K.laws_szNodeS_l5 : KonC := (kcons 33 (P.laws_szNode M.laws_szNode pnil) knil)
noncomputable def L.laws_szNodeS_l5 : LoopC := lnil
theorem E.laws_szNodeS_l5 {R : Type} (a : List Row) (s : Int × Int) (k : Ex → St → Option R) : denC X0 (K.laws_szNodeS_l5) (L.laws_szNodeS_l5) 9 (loopCode X0.P 9 5) (T.laws_szNodeS_l5 a s) k = M.laws_szNodeS_l5_C a s (fun s => k .normal (T.laws_szNodeS_l5 a s)) (fun t => (A.laws_szNodeS_l5 a).go t fun r => k r.1 r.2) := by
  obtain ⟨left, i⟩ := s
  all_goals kernel_rfl
theorem LC.laws_szNodeS_l5 : loops (loopCode X0.P 9 5) = [] := by kernel_rfl
noncomputable def PL.laws_szNodeS_l5 (S : St) : ResA (Ex × St) := match S with
  | { tm := [(0, V.d (D.sl false 5 a)), (1, V.d (D.int IntKind.i64 left)), (5, V.d (D.int IntKind.i64 i))], mem := [] } => ⟨A.laws_szNodeS_l5 a, M.laws_szNodeS_l5 a ((left, i))⟩
  | _ => .none
theorem C.laws_szNodeS_l5 : LpOk X0 9 5 (loopCode X0.P 9 5) (PL.laws_szNodeS_l5) := by
  refine ⟨by kernel_rfl, fun S r hr => ?_⟩
  unfold PL.laws_szNodeS_l5 at hr
  split at hr
  · obtain ⟨x, hx, rfl⟩ := ResA.val_some hr
    exact lp_sound (K := K.laws_szNodeS_l5) (L := L.laws_szNodeS_l5) (b := M.laws_szNodeS_l5_b _) (tm := T.laws_szNodeS_l5 _) (tx := (A.laws_szNodeS_l5 _).enc) (kcons_ok (P.laws_szNode_ok C.laws_szNode pnil_ok) knil_ok) (by rw [LC.laws_szNodeS_l5]; exact LOk.nil) (fun s => by rw [E.laws_szNodeS_l5, M.laws_szNodeS_l5_n]; congr 1; funext r; cases r <;> first | rfl | exact Alt.go_eq _ _ _) (by intro t; rcases t with t | t <;> first | (intro h; cases h) | (intro h; cases h)) hx (s := (_, _))
  · cases hr
noncomputable def M.laws_szNodeS_C {R : Type} (a : List Row) (left : Int) (k : Int → Option R) : Option R :=
  bif decide (IntKind.i64.wrap (left - (↑a.length : Int)) < 0) then (k (-1)) else
   ((M.laws_szNodeS_l5 a ((IntKind.i64.wrap (left - (↑a.length : Int)), 0))).bind fun u10 =>
   sumE u10 (fun t8 => (k (-1))) fun u11 =>
    letE u11 fun t9 => (k t9.fst))
noncomputable def M.laws_szNodeS (a : List Row) (left : Int) : Option (Int) := M.laws_szNodeS_C a left some
theorem M.laws_szNodeS_n {R : Type} (a : List Row) (left : Int) (k : Int → Option R) : M.laws_szNodeS_C a left k = (M.laws_szNodeS_C a left some).bind k := by
  simp only [M.laws_szNodeS_C, bif_bind, bind_bind, some_bind, none_bind, sumE_bind, optE_bind, letE_bind]
noncomputable def K.laws_szNodeS : KonC := knil
noncomputable def L.laws_szNodeS : LoopC := (lcons 5 (PL.laws_szNodeS_l5) lnil)
theorem E.laws_szNodeS {R : Type} (a : List Row) (left : Int) (k : List Row → List Cell → Option R) : bodyC X0 (K.laws_szNodeS) (L.laws_szNodeS) 9 [V.d (D.sl false 5 a), V.d (D.int IntKind.i64 left)] [] k = M.laws_szNodeS_C a left (fun r => k [[D.int IntKind.i64 r]] []) := by kernel_rfl
theorem LC.laws_szNodeS : loops (codeOf X0.P 9) = [loopCode X0.P 9 5] := by kernel_rfl
theorem C.laws_szNodeS : H.laws_szNodeS (M.laws_szNodeS) := by
  intro a left r h
  exact fn_sound (enc := fun r => ([[D.int IntKind.i64 r]], [])) (K := K.laws_szNodeS) (L := L.laws_szNodeS) (by kernel_rfl) knil_ok (by rw [LC.laws_szNodeS]; exact (LOk.cons (LpOk.at (C.laws_szNodeS_l5) (fun _ => rfl)) LOk.nil)) (by rw [E.laws_szNodeS, M.laws_szNodeS_n] <;> rfl) h

/-! laws_toIntS -/
def H.laws_toIntS (o : List Row → Option (List Row)) : Prop := ∀ (a : List Row) (r : List Row), o a = some r → call X0 24 [V.d (D.sl false 1 a)] [] = some ([[D.sl true 1 r]], [])
def P.laws_toIntS (o : List Row → Option (List Row)) (q : List V → List Cell → Res (List Row × List Cell)) (a : List V) (c : List Cell) : Res (List Row × List Cell) := match a, c with
  | [V.d (D.sl false 1 a)], [] => ⟨List Row, o a, fun r => ([[D.sl true 1 r]], [])⟩
  | a, c => q a c
theorem P.laws_toIntS_ok {o : List Row → Option (List Row)} {q : List V → List Cell → Res (List Row × List Cell)} (h : H.laws_toIntS o) (hq : FnOk X0 24 q) : FnOk X0 24 (P.laws_toIntS o q) := by
  intro a c r hr
  unfold P.laws_toIntS at hr
  split at hr
  · obtain ⟨x, hx, rfl⟩ := Res.val_some hr
    exact h _ x hx
  · exact hq _ _ _ hr
noncomputable def M.laws_toIntS_l3_C {R : Type} (a : List Row) (s : Int × List Row) (kn : Int × List Row → Option R) (ke : Int × Bool × List Row → Option R) : Option R := match s with
  | (i, x') =>
    bif decide (i < (↑a.length : Int)) then
     ((idx a i).bind fun row19 =>
      ((cInt IntKind.i64 row19 0).bind fun n20 =>
       ((idx x' i).bind fun row21 =>
        (x'[i.toNat]?.bind fun row22 => (kn ((IntKind.i64.wrap (i + 1), x'.set i.toNat (splice row22 0 [D.int IntKind.i64 n20])))))))) else (ke ((i, decide (i < (↑a.length : Int)), x')))
noncomputable def M.laws_toIntS_l3_b (a : List Row) (s : Int × List Row) : Option ((Int × List Row) ⊕ (Int × Bool × List Row)) := M.laws_toIntS_l3_C a s (fun s => some (.inl s)) (fun t => some (.inr t))
noncomputable def M.laws_toIntS_l3 (a : List Row) (s : Int × List Row) : Option (Int × Bool × List Row) := loopM (M.laws_toIntS_l3_b a) s
theorem M.laws_toIntS_l3_n {R : Type} (a : List Row) (s : Int × List Row) (kn : Int × List Row → Option R) (ke : Int × Bool × List Row → Option R) : M.laws_toIntS_l3_C a s kn ke = (M.laws_toIntS_l3_b a s).bind fun r => match r with | .inl s => kn s | .inr t => ke t := by
  obtain ⟨i, x'⟩ := s
  all_goals
    simp only [M.laws_toIntS_l3_b, M.laws_toIntS_l3_C, bif_bind, bind_bind, some_bind, none_bind, sumE_bind, optE_bind, letE_bind]
def A.laws_toIntS_l3 (a : List Row) : Alt (Ex × St) := .leaf (Int × Bool × List Row) (fun t => (Ex.exit 0, { tm := [(0, V.d (D.sl false 1 a)), (3, V.own 300000 0), (4, V.d (D.int IntKind.i64 t.fst)), (11, V.d (D.bool t.snd.fst))], mem := [(300000, Cell.arr false true 0 1 t.snd.snd)] }))
def T.laws_toIntS_l3 (a : List Row) (s : Int × List Row) : St := match s with
  | (i, x') => { tm := [(0, V.d (D.sl false 1 a)), (3, V.own 300000 0), (4, V.d (D.int IntKind.i64 i))], mem := [(300000, Cell.arr false true 0 1 x')] }
noncomputable def K.laws_toIntS_l3 : KonC := knil
noncomputable def L.laws_toIntS_l3 : LoopC := lnil
theorem E.laws_toIntS_l3 {R : Type} (a : List Row) (s : Int × List Row) (k : Ex → St → Option R) : denC X0 (K.laws_toIntS_l3) (L.laws_toIntS_l3) 24 (loopCode X0.P 24 3) (T.laws_toIntS_l3 a s) k = M.laws_toIntS_l3_C a s (fun s => k .normal (T.laws_toIntS_l3 a s)) (fun t => (A.laws_toIntS_l3 a).go t fun r => k r.1 r.2) := by
  obtain ⟨i, x'⟩ := s
  all_goals kernel_rfl
theorem LC.laws_toIntS_l3 : loops (loopCode X0.P 24 3) = [] := by kernel_rfl
noncomputable def PL.laws_toIntS_l3 (S : St) : ResA (Ex × St) := match S with
  | { tm := [(0, V.d (D.sl false 1 a)), (3, V.own 300000 0), (4, V.d (D.int IntKind.i64 i))], mem := [(300000, Cell.arr false true 0 1 x')] } => ⟨A.laws_toIntS_l3 a, M.laws_toIntS_l3 a ((i, x'))⟩
  | _ => .none
theorem C.laws_toIntS_l3 : LpOk X0 24 3 (loopCode X0.P 24 3) (PL.laws_toIntS_l3) := by
  refine ⟨by kernel_rfl, fun S r hr => ?_⟩
  unfold PL.laws_toIntS_l3 at hr
  split at hr
  · obtain ⟨x, hx, rfl⟩ := ResA.val_some hr
    exact lp_sound (K := K.laws_toIntS_l3) (L := L.laws_toIntS_l3) (b := M.laws_toIntS_l3_b _) (tm := T.laws_toIntS_l3 _) (tx := (A.laws_toIntS_l3 _).enc) knil_ok (by rw [LC.laws_toIntS_l3]; exact LOk.nil) (fun s => by rw [E.laws_toIntS_l3, M.laws_toIntS_l3_n]; congr 1; funext r; cases r <;> first | rfl | exact Alt.go_eq _ _ _) (by intro t; intro h; cases h) hx (s := (_, _))
  · cases hr
noncomputable def M.laws_toIntS_C {R : Type} (a : List Row) (k : List Row → Option R) : Option R :=
  bif decide (0 ≤ (↑a.length : Int)) && decide ((↑a.length : Int) ≤ (↑a.length : Int)) && decide ((↑a.length : Int) * 8 ≤ 140737488355328) && decide ((↑a.length : Int) ≤ 140737488355328) then
   ((M.laws_toIntS_l3 a ((0, List.replicate (↑a.length : Int).toNat [D.int IntKind.i64 0]))).bind fun t23 => (bif flatRows t23.snd.snd then (k t23.snd.snd) else none)) else none
noncomputable def M.laws_toIntS (a : List Row) : Option (List Row) := M.laws_toIntS_C a some
theorem M.laws_toIntS_n {R : Type} (a : List Row) (k : List Row → Option R) : M.laws_toIntS_C a k = (M.laws_toIntS_C a some).bind k := by
  simp only [M.laws_toIntS_C, bif_bind, bind_bind, some_bind, none_bind, sumE_bind, optE_bind, letE_bind]
noncomputable def K.laws_toIntS : KonC := knil
noncomputable def L.laws_toIntS : LoopC := (lcons 3 (PL.laws_toIntS_l3) lnil)
theorem E.laws_toIntS {R : Type} (a : List Row) (k : List Row → List Cell → Option R) : bodyC X0 (K.laws_toIntS) (L.laws_toIntS) 24 [V.d (D.sl false 1 a)] [] k = M.laws_toIntS_C a (fun r => k [[D.sl true 1 r]] []) := by kernel_rfl
theorem LC.laws_toIntS : loops (codeOf X0.P 24) = [loopCode X0.P 24 3] := by kernel_rfl
theorem C.laws_toIntS : H.laws_toIntS (M.laws_toIntS) := by
  intro a r h
  exact fn_sound (enc := fun r => ([[D.sl true 1 r]], [])) (K := K.laws_toIntS) (L := L.laws_toIntS) (by kernel_rfl) knil_ok (by rw [LC.laws_toIntS]; exact (LOk.cons (LpOk.at (C.laws_toIntS_l3) (fun _ => rfl)) LOk.nil)) (by rw [E.laws_toIntS, M.laws_toIntS_n] <;> rfl) h

/-! laws_toNode -/
def H.laws_toNode (o : Int → Int → List UInt8 → List UInt8 → List Row → Option (Int × Int × List UInt8 × List UInt8 × List Row)) : Prop := ∀ (a : Int) (a1 : Int) (a2 : List UInt8) (a3 : List UInt8) (a4 : List Row) (r : Int × Int × List UInt8 × List UInt8 × List Row), o a a1 a2 a3 a4 = some r → call X0 35 [V.agg [V.d (D.int IntKind.i64 a), V.d (D.int IntKind.i64 a1), V.d (D.str a2), V.d (D.str a3), V.d (D.sl false 1 a4)]] [] = some ([[D.int IntKind.i64 r.fst, D.int IntKind.i64 r.snd.fst, D.str r.snd.snd.fst, D.str r.snd.snd.snd.fst, D.sl true 1 r.snd.snd.snd.snd]], [])
def P.laws_toNode (o : Int → Int → List UInt8 → List UInt8 → List Row → Option (Int × Int × List UInt8 × List UInt8 × List Row)) (q : List V → List Cell → Res (List Row × List Cell)) (a : List V) (c : List Cell) : Res (List Row × List Cell) := match a, c with
  | [V.agg [V.d (D.int IntKind.i64 a), V.d (D.int IntKind.i64 a1), V.d (D.str a2), V.d (D.str a3), V.d (D.sl false 1 a4)]], [] => ⟨Int × Int × List UInt8 × List UInt8 × List Row, o a a1 a2 a3 a4, fun r => ([[D.int IntKind.i64 r.fst, D.int IntKind.i64 r.snd.fst, D.str r.snd.snd.fst, D.str r.snd.snd.snd.fst, D.sl true 1 r.snd.snd.snd.snd]], [])⟩
  | a, c => q a c
theorem P.laws_toNode_ok {o : Int → Int → List UInt8 → List UInt8 → List Row → Option (Int × Int × List UInt8 × List UInt8 × List Row)} {q : List V → List Cell → Res (List Row × List Cell)} (h : H.laws_toNode o) (hq : FnOk X0 35 q) : FnOk X0 35 (P.laws_toNode o q) := by
  intro a c r hr
  unfold P.laws_toNode at hr
  split at hr
  · obtain ⟨x, hx, rfl⟩ := Res.val_some hr
    exact h _ _ _ _ _ x hx
  · exact hq _ _ _ hr
noncomputable def M.laws_toNode_C {R : Type} (a : Int) (a1 : Int) (a2 : List UInt8) (a3 : List UInt8) (a4 : List Row) (k : Int × Int × List UInt8 × List UInt8 × List Row → Option R) : Option R :=
  (M.laws_toIntS a4).bind fun r24 => (bif flatRows r24 then (k ((a, a1, a2, a3, r24))) else none)
noncomputable def M.laws_toNode (a : Int) (a1 : Int) (a2 : List UInt8) (a3 : List UInt8) (a4 : List Row) : Option (Int × Int × List UInt8 × List UInt8 × List Row) := M.laws_toNode_C a a1 a2 a3 a4 some
theorem M.laws_toNode_n {R : Type} (a : Int) (a1 : Int) (a2 : List UInt8) (a3 : List UInt8) (a4 : List Row) (k : Int × Int × List UInt8 × List UInt8 × List Row → Option R) : M.laws_toNode_C a a1 a2 a3 a4 k = (M.laws_toNode_C a a1 a2 a3 a4 some).bind k := by
  simp only [M.laws_toNode_C, bif_bind, bind_bind, some_bind, none_bind, sumE_bind, optE_bind, letE_bind]
noncomputable def K.laws_toNode : KonC := (kcons 24 (P.laws_toIntS M.laws_toIntS pnil) knil)
noncomputable def L.laws_toNode : LoopC := lnil
theorem E.laws_toNode {R : Type} (a : Int) (a1 : Int) (a2 : List UInt8) (a3 : List UInt8) (a4 : List Row) (k : List Row → List Cell → Option R) : bodyC X0 (K.laws_toNode) (L.laws_toNode) 35 [V.agg [V.d (D.int IntKind.i64 a), V.d (D.int IntKind.i64 a1), V.d (D.str a2), V.d (D.str a3), V.d (D.sl false 1 a4)]] [] k = M.laws_toNode_C a a1 a2 a3 a4 (fun r => k [[D.int IntKind.i64 r.fst, D.int IntKind.i64 r.snd.fst, D.str r.snd.snd.fst, D.str r.snd.snd.snd.fst, D.sl true 1 r.snd.snd.snd.snd]] []) := by kernel_rfl
theorem LC.laws_toNode : loops (codeOf X0.P 35) = [] := by kernel_rfl
theorem C.laws_toNode : H.laws_toNode (M.laws_toNode) := by
  intro a a1 a2 a3 a4 r h
  exact fn_sound (enc := fun r => ([[D.int IntKind.i64 r.fst, D.int IntKind.i64 r.snd.fst, D.str r.snd.snd.fst, D.str r.snd.snd.snd.fst, D.sl true 1 r.snd.snd.snd.snd]], [])) (K := K.laws_toNode) (L := L.laws_toNode) (by kernel_rfl) (kcons_ok (P.laws_toIntS_ok C.laws_toIntS pnil_ok) knil_ok) (by rw [LC.laws_toNode]; exact LOk.nil) (by rw [E.laws_toNode, M.laws_toNode_n] <;> rfl) h

/-! laws_toNodeS -/
def H.laws_toNodeS (o : List Row → Option (List Row)) : Prop := ∀ (a : List Row) (r : List Row), o a = some r → call X0 11 [V.d (D.sl false 5 a)] [] = some ([[D.sl true 5 r]], [])
def P.laws_toNodeS (o : List Row → Option (List Row)) (q : List V → List Cell → Res (List Row × List Cell)) (a : List V) (c : List Cell) : Res (List Row × List Cell) := match a, c with
  | [V.d (D.sl false 5 a)], [] => ⟨List Row, o a, fun r => ([[D.sl true 5 r]], [])⟩
  | a, c => q a c
theorem P.laws_toNodeS_ok {o : List Row → Option (List Row)} {q : List V → List Cell → Res (List Row × List Cell)} (h : H.laws_toNodeS o) (hq : FnOk X0 11 q) : FnOk X0 11 (P.laws_toNodeS o q) := by
  intro a c r hr
  unfold P.laws_toNodeS at hr
  split at hr
  · obtain ⟨x, hx, rfl⟩ := Res.val_some hr
    exact h _ x hx
  · exact hq _ _ _ hr
noncomputable def M.laws_toNodeS_l3_C {R : Type} (a : List Row) (s : Int × List Row) (kn : Int × List Row → Option R) (ke : Int × Bool × List Row → Option R) : Option R := match s with
  | (i, x') =>
    bif decide (i < (↑a.length : Int)) then
     ((idx a i).bind fun row13 =>
      ((cInt IntKind.i64 row13 0).bind fun n14 =>
       ((cInt IntKind.i64 row13 1).bind fun n15 =>
        ((cStr row13 2).bind fun s16 =>
         ((cStr row13 3).bind fun s17 =>
          ((cSl 1 row13 4).bind fun rows18 =>
           ((M.laws_toNode n14 n15 s16 s17 rows18).bind fun r25 =>
            ((idx x' i).bind fun row26 =>
             (bif flatRows r25.snd.snd.snd.snd then
              (x'[i.toNat]?.bind fun row27 =>
               (kn ((IntKind.i64.wrap (i + 1), x'.set i.toNat (splice row27 0 [D.int IntKind.i64 r25.fst, D.int IntKind.i64 r25.snd.fst, D.str r25.snd.snd.fst, D.str r25.snd.snd.snd.fst, D.sl true 1 r25.snd.snd.snd.snd]))))) else none))))))))) else (ke ((i, decide (i < (↑a.length : Int)), x')))
noncomputable def M.laws_toNodeS_l3_b (a : List Row) (s : Int × List Row) : Option ((Int × List Row) ⊕ (Int × Bool × List Row)) := M.laws_toNodeS_l3_C a s (fun s => some (.inl s)) (fun t => some (.inr t))
noncomputable def M.laws_toNodeS_l3 (a : List Row) (s : Int × List Row) : Option (Int × Bool × List Row) := loopM (M.laws_toNodeS_l3_b a) s
theorem M.laws_toNodeS_l3_n {R : Type} (a : List Row) (s : Int × List Row) (kn : Int × List Row → Option R) (ke : Int × Bool × List Row → Option R) : M.laws_toNodeS_l3_C a s kn ke = (M.laws_toNodeS_l3_b a s).bind fun r => match r with | .inl s => kn s | .inr t => ke t := by
  obtain ⟨i, x'⟩ := s
  all_goals
    simp only [M.laws_toNodeS_l3_b, M.laws_toNodeS_l3_C, bif_bind, bind_bind, some_bind, none_bind, sumE_bind, optE_bind, letE_bind]
def A.laws_toNodeS_l3 (a : List Row) : Alt (Ex × St) := .leaf (Int × Bool × List Row) (fun t => (Ex.exit 0, { tm := [(0, V.d (D.sl false 5 a)), (3, V.own 300000 0), (4, V.d (D.int IntKind.i64 t.fst)), (11, V.d (D.bool t.snd.fst))], mem := [(300000, Cell.arr false false 0 5 t.snd.snd)] }))
def T.laws_toNodeS_l3 (a : List Row) (s : Int × List Row) : St := match s with
  | (i, x') => { tm := [(0, V.d (D.sl false 5 a)), (3, V.own 300000 0), (4, V.d (D.int IntKind.i64 i))], mem := [(300000, Cell.arr false false 0 5 x')] }
noncomputable def K.laws_toNodeS_l3 : KonC := (kcons 35 (P.laws_toNode M.laws_toNode pnil) knil)
noncomputable def L.laws_toNodeS_l3 : LoopC := lnil
theorem E.laws_toNodeS_l3 {R : Type} (a : List Row) (s : Int × List Row) (k : Ex → St → Option R) : denC X0 (K.laws_toNodeS_l3) (L.laws_toNodeS_l3) 11 (loopCode X0.P 11 3) (T.laws_toNodeS_l3 a s) k = M.laws_toNodeS_l3_C a s (fun s => k .normal (T.laws_toNodeS_l3 a s)) (fun t => (A.laws_toNodeS_l3 a).go t fun r => k r.1 r.2) := by
  obtain ⟨i, x'⟩ := s
  all_goals kernel_rfl
theorem LC.laws_toNodeS_l3 : loops (loopCode X0.P 11 3) = [] := by kernel_rfl
noncomputable def PL.laws_toNodeS_l3 (S : St) : ResA (Ex × St) := match S with
  | { tm := [(0, V.d (D.sl false 5 a)), (3, V.own 300000 0), (4, V.d (D.int IntKind.i64 i))], mem := [(300000, Cell.arr false false 0 5 x')] } => ⟨A.laws_toNodeS_l3 a, M.laws_toNodeS_l3 a ((i, x'))⟩
  | _ => .none
theorem C.laws_toNodeS_l3 : LpOk X0 11 3 (loopCode X0.P 11 3) (PL.laws_toNodeS_l3) := by
  refine ⟨by kernel_rfl, fun S r hr => ?_⟩
  unfold PL.laws_toNodeS_l3 at hr
  split at hr
  · obtain ⟨x, hx, rfl⟩ := ResA.val_some hr
    exact lp_sound (K := K.laws_toNodeS_l3) (L := L.laws_toNodeS_l3) (b := M.laws_toNodeS_l3_b _) (tm := T.laws_toNodeS_l3 _) (tx := (A.laws_toNodeS_l3 _).enc) (kcons_ok (P.laws_toNode_ok C.laws_toNode pnil_ok) knil_ok) (by rw [LC.laws_toNodeS_l3]; exact LOk.nil) (fun s => by rw [E.laws_toNodeS_l3, M.laws_toNodeS_l3_n]; congr 1; funext r; cases r <;> first | rfl | exact Alt.go_eq _ _ _) (by intro t; intro h; cases h) hx (s := (_, _))
  · cases hr
noncomputable def M.laws_toNodeS_C {R : Type} (a : List Row) (k : List Row → Option R) : Option R :=
  bif decide (0 ≤ (↑a.length : Int)) && decide ((↑a.length : Int) ≤ (↑a.length : Int)) && decide ((↑a.length : Int) * 72 ≤ 140737488355328) && decide ((↑a.length : Int) ≤ 140737488355328) then
   ((M.laws_toNodeS_l3 a ((0, List.replicate (↑a.length : Int).toNat [D.int IntKind.i64 0, D.int IntKind.i64 0, D.str [], D.str [], D.sl true 1 []]))).bind fun t28 => (k t28.snd.snd)) else none
noncomputable def M.laws_toNodeS (a : List Row) : Option (List Row) := M.laws_toNodeS_C a some
theorem M.laws_toNodeS_n {R : Type} (a : List Row) (k : List Row → Option R) : M.laws_toNodeS_C a k = (M.laws_toNodeS_C a some).bind k := by
  simp only [M.laws_toNodeS_C, bif_bind, bind_bind, some_bind, none_bind, sumE_bind, optE_bind, letE_bind]
noncomputable def K.laws_toNodeS : KonC := knil
noncomputable def L.laws_toNodeS : LoopC := (lcons 3 (PL.laws_toNodeS_l3) lnil)
theorem E.laws_toNodeS {R : Type} (a : List Row) (k : List Row → List Cell → Option R) : bodyC X0 (K.laws_toNodeS) (L.laws_toNodeS) 11 [V.d (D.sl false 5 a)] [] k = M.laws_toNodeS_C a (fun r => k [[D.sl true 5 r]] []) := by kernel_rfl
theorem LC.laws_toNodeS : loops (codeOf X0.P 11) = [loopCode X0.P 11 3] := by kernel_rfl
theorem C.laws_toNodeS : H.laws_toNodeS (M.laws_toNodeS) := by
  intro a r h
  exact fn_sound (enc := fun r => ([[D.sl true 5 r]], [])) (K := K.laws_toNodeS) (L := L.laws_toNodeS) (by kernel_rfl) knil_ok (by rw [LC.laws_toNodeS]; exact (LOk.cons (LpOk.at (C.laws_toNodeS_l3) (fun _ => rfl)) LOk.nil)) (by rw [E.laws_toNodeS, M.laws_toNodeS_n] <;> rfl) h

/-! spec_l1In -/
def H.spec_l1In (o : Int → Int → Int → Option (Bool)) : Prop := ∀ (x' : Int) (low : Int) (high : Int) (r : Bool), o x' low high = some r → call X0 34 [V.d (D.int IntKind.i64 x'), V.d (D.int IntKind.i64 low), V.d (D.int IntKind.i64 high)] [] = some ([[D.bool r]], [])
def P.spec_l1In (o : Int → Int → Int → Option (Bool)) (q : List V → List Cell → Res (List Row × List Cell)) (a : List V) (c : List Cell) : Res (List Row × List Cell) := match a, c with
  | [V.d (D.int IntKind.i64 x'), V.d (D.int IntKind.i64 low), V.d (D.int IntKind.i64 high)], [] => ⟨Bool, o x' low high, fun r => ([[D.bool r]], [])⟩
  | a, c => q a c
theorem P.spec_l1In_ok {o : Int → Int → Int → Option (Bool)} {q : List V → List Cell → Res (List Row × List Cell)} (h : H.spec_l1In o) (hq : FnOk X0 34 q) : FnOk X0 34 (P.spec_l1In o q) := by
  intro a c r hr
  unfold P.spec_l1In at hr
  split at hr
  · obtain ⟨x, hx, rfl⟩ := Res.val_some hr
    exact h _ _ _ x hx
  · exact hq _ _ _ hr
noncomputable def M.spec_l1In_C {R : Type} (x' : Int) (low : Int) (high : Int) (k : Bool → Option R) : Option R :=
  bif decide (x' ≥ low) then (k (decide (x' ≤ high))) else (k false)
noncomputable def M.spec_l1In (x' : Int) (low : Int) (high : Int) : Option (Bool) := M.spec_l1In_C x' low high some
theorem M.spec_l1In_n {R : Type} (x' : Int) (low : Int) (high : Int) (k : Bool → Option R) : M.spec_l1In_C x' low high k = (M.spec_l1In_C x' low high some).bind k := by
  simp only [M.spec_l1In_C, bif_bind, bind_bind, some_bind, none_bind, sumE_bind, optE_bind, letE_bind]
noncomputable def K.spec_l1In : KonC := knil
noncomputable def L.spec_l1In : LoopC := lnil
theorem E.spec_l1In {R : Type} (x' : Int) (low : Int) (high : Int) (k : List Row → List Cell → Option R) : bodyC X0 (K.spec_l1In) (L.spec_l1In) 34 [V.d (D.int IntKind.i64 x'), V.d (D.int IntKind.i64 low), V.d (D.int IntKind.i64 high)] [] k = M.spec_l1In_C x' low high (fun r => k [[D.bool r]] []) := by kernel_rfl
theorem LC.spec_l1In : loops (codeOf X0.P 34) = [] := by kernel_rfl
theorem C.spec_l1In : H.spec_l1In (M.spec_l1In) := by
  intro x' low high r h
  exact fn_sound (enc := fun r => ([[D.bool r]], [])) (K := K.spec_l1In) (L := L.spec_l1In) (by kernel_rfl) knil_ok (by rw [LC.spec_l1In]; exact LOk.nil) (by rw [E.spec_l1In, M.spec_l1In_n] <;> rfl) h

/-! spec_AssignsTo -/
def H.spec_AssignsTo (o : List Row → List UInt8 → Option (Bool)) : Prop := ∀ (l : List Row) (name : List UInt8) (r : Bool), o l name = some r → call X0 10 [V.d (D.sl false 5 l), V.d (D.str name)] [] = some ([[D.bool r]], [])
def P.spec_AssignsTo (o : List Row → List UInt8 → Option (Bool)) (q : List V → List Cell → Res (List Row × List Cell)) (a : List V) (c : List Cell) : Res (List Row × List Cell) := match a, c with
  | [V.d (D.sl false 5 l), V.d (D.str name)], [] => ⟨Bool, o l name, fun r => ([[D.bool r]], [])⟩
  | a, c => q a c
theorem P.spec_AssignsTo_ok {o : List Row → List UInt8 → Option (Bool)} {q : List V → List Cell → Res (List Row × List Cell)} (h : H.spec_AssignsTo o) (hq : FnOk X0 10 q) : FnOk X0 10 (P.spec_AssignsTo o q) := by
  intro a c r hr
  unfold P.spec_AssignsTo at hr
  split at hr
  · obtain ⟨x, hx, rfl⟩ := Res.val_some hr
    exact h _ _ x hx
  · exact hq _ _ _ hr
noncomputable def M.spec_AssignsTo_l2_C {R : Type} (l : List Row) (name : List UInt8) (s : Int) (kn : Int → Option R) (ke : (Unit) ⊕ (Int × Bool) → Option R) : Option R := match s with
  | i =>
    bif decide (i < (↑l.length : Int)) then
     ((idx l i).bind fun row30 =>
      ((cInt IntKind.i64 row30 0).bind fun n31 =>
       ((cInt IntKind.i64 row30 1).bind fun n32 =>
        ((cStr row30 2).bind fun s33 =>
         ((cStr row30 3).bind fun s34 =>
          ((cSl 1 row30 4).bind fun rows35 =>
           (bif n31 == 32 then
            (bif s33 == name then (ke (.inl ())) else
             (bif n31 == 15 then
              (bif decide ((↑rows35.length : Int) > 0) then
               ((idx rows35 0).bind fun row36 =>
                ((cInt IntKind.i64 row36 0).bind fun n37 =>
                 ((M.spec_l1In n37 0 (IntKind.i64.wrap ((↑l.length : Int) - 1))).bind fun r38 =>
                  (bif r38 then
                   ((idx rows35 0).bind fun row39 =>
                    ((cInt IntKind.i64 row39 0).bind fun n40 =>
                     ((idx l n40).bind fun row41 =>
                      ((cInt IntKind.i64 row41 0).bind fun n42 =>
                       ((cInt IntKind.i64 row41 1).bind fun n43 =>
                        ((cStr row41 2).bind fun s44 =>
                         ((cStr row41 3).bind fun s45 =>
                          ((cSl 1 row41 4).bind fun rows46 =>
                           (bif n42 == 1 then (bif s44 == name then (ke (.inl ())) else (kn (IntKind.i64.wrap (i + 1)))) else (kn (IntKind.i64.wrap (i + 1)))))))))))) else (kn (IntKind.i64.wrap (i + 1))))))) else (kn (IntKind.i64.wrap (i + 1)))) else
              (bif n31 == 9 then
               (bif decide ((↑rows35.length : Int) > 0) then
                ((idx rows35 0).bind fun row47 =>
                 ((cInt IntKind.i64 row47 0).bind fun n48 =>
                  ((M.spec_l1In n48 0 (IntKind.i64.wrap ((↑l.length : Int) - 1))).bind fun r49 =>
                   (bif r49 then
                    ((idx rows35 0).bind fun row50 =>
                     ((cInt IntKind.i64 row50 0).bind fun n51 =>
                      ((idx l n51).bind fun row52 =>
                       ((cInt IntKind.i64 row52 0).bind fun n53 =>
                        ((cInt IntKind.i64 row52 1).bind fun n54 =>
                         ((cStr row52 2).bind fun s55 =>
                          ((cStr row52 3).bind fun s56 =>
                           ((cSl 1 row52 4).bind fun rows57 =>
                            (bif n53 == 1 then (bif s55 == name then (ke (.inl ())) else (kn (IntKind.i64.wrap (i + 1)))) else (kn (IntKind.i64.wrap (i + 1)))))))))))) else (kn (IntKind.i64.wrap (i + 1))))))) else (kn (IntKind.i64.wrap (i + 1)))) else
               (bif n31 == 10 then
                (bif decide ((↑rows35.length : Int) > 0) then
                 ((idx rows35 0).bind fun row58 =>
                  ((cInt IntKind.i64 row58 0).bind fun n59 =>
                   ((M.spec_l1In n59 0 (IntKind.i64.wrap ((↑l.length : Int) - 1))).bind fun r60 =>
                    (bif r60 then
                     ((idx rows35 0).bind fun row61 =>
                      ((cInt IntKind.i64 row61 0).bind fun n62 =>
                       ((idx l n62).bind fun row63 =>
                        ((cInt IntKind.i64 row63 0).bind fun n64 =>
                         ((cInt IntKind.i64 row63 1).bind fun n65 =>
                          ((cStr row63 2).bind fun s66 =>
                           ((cStr row63 3).bind fun s67 =>
                            ((cSl 1 row63 4).bind fun rows68 =>
                             (bif n64 == 1 then (bif s66 == name then (ke (.inl ())) else (kn (IntKind.i64.wrap (i + 1)))) else (kn (IntKind.i64.wrap (i + 1)))))))))))) else (kn (IntKind.i64.wrap (i + 1))))))) else (kn (IntKind.i64.wrap (i + 1)))) else (kn (IntKind.i64.wrap (i + 1))))))) else
            (bif n31 == 15 then
             (bif decide ((↑rows35.length : Int) > 0) then
              ((idx rows35 0).bind fun row69 =>
               ((cInt IntKind.i64 row69 0).bind fun n70 =>
                ((M.spec_l1In n70 0 (IntKind.i64.wrap ((↑l.length : Int) - 1))).bind fun r71 =>
                 (bif r71 then
                  ((idx rows35 0).bind fun row72 =>
                   ((cInt IntKind.i64 row72 0).bind fun n73 =>
                    ((idx l n73).bind fun row74 =>
                     ((cInt IntKind.i64 row74 0).bind fun n75 =>
                      ((cInt IntKind.i64 row74 1).bind fun n76 =>
                       ((cStr row74 2).bind fun s77 =>
                        ((cStr row74 3).bind fun s78 =>
                         ((cSl 1 row74 4).bind fun rows79 =>
                          (bif n75 == 1 then (bif s77 == name then (ke (.inl ())) else (kn (IntKind.i64.wrap (i + 1)))) else (kn (IntKind.i64.wrap (i + 1)))))))))))) else (kn (IntKind.i64.wrap (i + 1))))))) else (kn (IntKind.i64.wrap (i + 1)))) else
             (bif n31 == 9 then
              (bif decide ((↑rows35.length : Int) > 0) then
               ((idx rows35 0).bind fun row80 =>
                ((cInt IntKind.i64 row80 0).bind fun n81 =>
                 ((M.spec_l1In n81 0 (IntKind.i64.wrap ((↑l.length : Int) - 1))).bind fun r82 =>
                  (bif r82 then
                   ((idx rows35 0).bind fun row83 =>
                    ((cInt IntKind.i64 row83 0).bind fun n84 =>
                     ((idx l n84).bind fun row85 =>
                      ((cInt IntKind.i64 row85 0).bind fun n86 =>
                       ((cInt IntKind.i64 row85 1).bind fun n87 =>
                        ((cStr row85 2).bind fun s88 =>
                         ((cStr row85 3).bind fun s89 =>
                          ((cSl 1 row85 4).bind fun rows90 =>
                           (bif n86 == 1 then (bif s88 == name then (ke (.inl ())) else (kn (IntKind.i64.wrap (i + 1)))) else (kn (IntKind.i64.wrap (i + 1)))))))))))) else (kn (IntKind.i64.wrap (i + 1))))))) else (kn (IntKind.i64.wrap (i + 1)))) else
              (bif n31 == 10 then
               (bif decide ((↑rows35.length : Int) > 0) then
                ((idx rows35 0).bind fun row91 =>
                 ((cInt IntKind.i64 row91 0).bind fun n92 =>
                  ((M.spec_l1In n92 0 (IntKind.i64.wrap ((↑l.length : Int) - 1))).bind fun r93 =>
                   (bif r93 then
                    ((idx rows35 0).bind fun row94 =>
                     ((cInt IntKind.i64 row94 0).bind fun n95 =>
                      ((idx l n95).bind fun row96 =>
                       ((cInt IntKind.i64 row96 0).bind fun n97 =>
                        ((cInt IntKind.i64 row96 1).bind fun n98 =>
                         ((cStr row96 2).bind fun s99 =>
                          ((cStr row96 3).bind fun s100 =>
                           ((cSl 1 row96 4).bind fun rows101 =>
                            (bif n97 == 1 then (bif s99 == name then (ke (.inl ())) else (kn (IntKind.i64.wrap (i + 1)))) else (kn (IntKind.i64.wrap (i + 1)))))))))))) else (kn (IntKind.i64.wrap (i + 1))))))) else (kn (IntKind.i64.wrap (i + 1)))) else (kn (IntKind.i64.wrap (i + 1))))))))))))) else (ke (.inr ((i, decide (i < (↑l.length : Int))))))
noncomputable def M.spec_AssignsTo_l2_b (l : List Row) (name : List UInt8) (s : Int) : Option ((Int) ⊕ ((Unit) ⊕ (Int × Bool))) := M.spec_AssignsTo_l2_C l name s (fun s => some (.inl s)) (fun t => some (.inr t))
noncomputable def M.spec_AssignsTo_l2 (l : List Row) (name : List UInt8) (s : Int) : Option ((Unit) ⊕ (Int × Bool)) := loopM (M.spec_AssignsTo_l2_b l name) s
theorem M.spec_AssignsTo_l2_n {R : Type} (l : List Row) (name : List UInt8) (s : Int) (kn : Int → Option R) (ke : (Unit) ⊕ (Int × Bool) → Option R) : M.spec_AssignsTo_l2_C l name s kn ke = (M.spec_AssignsTo_l2_b l name s).bind fun r => match r with | .inl s => kn s | .inr t => ke t := by
  skip
  all_goals
    simp only [M.spec_AssignsTo_l2_b, M.spec_AssignsTo_l2_C, bif_bind, bind_bind, some_bind, none_bind, sumE_bind, optE_bind, letE_bind]
def A.spec_AssignsTo_l2 (l : List Row) (name : List UInt8) : Alt (Ex × St) := .sum (.leaf (Unit) (fun t => (Ex.ret, { tm := [(4, V.d (D.bool true))], mem := [] }))) (.leaf (Int × Bool) (fun t => (Ex.exit 0, { tm := [(0, V.d (D.sl false 5 l)), (1, V.d (D.str name)), (5, V.d (D.int IntKind.i64 t.fst)), (11, V.d (D.bool t.snd))], mem := [] })))
def T.spec_AssignsTo_l2 (l : List Row) (name : List UInt8) (s : Int) : St := match s with
  | i => { tm := [(0, V.d (D.sl false 5 l)), (1, V.d (D.str name)), (5, V.d (D.int IntKind.i64 i))], mem := [] }
noncomputable def K.spec_AssignsTo_l2 : KonC := (kcons 34 (P.spec_l1In M.spec_l1In pnil) knil)
noncomputable def L.spec_AssignsTo_l2 : LoopC := lnil
theorem E.spec_AssignsTo_l2 {R : Type} (l : List Row) (name : List UInt8) (s : Int) (k : Ex → St → Option R) : denC X0 (K.spec_AssignsTo_l2) (L.spec_AssignsTo_l2) 10 (loopCode X0.P 10 2) (T.spec_AssignsTo_l2 l name s) k = M.spec_AssignsTo_l2_C l name s (fun s => k .normal (T.spec_AssignsTo_l2 l name s)) (fun t => (A.spec_AssignsTo_l2 l name).go t fun r => k r.1 r.2) := by
  skip
  all_goals kernel_rfl
theorem LC.spec_AssignsTo_l2 : loops (loopCode X0.P 10 2) = [] := by kernel_rfl
noncomputable def PL.spec_AssignsTo_l2 (S : St) : ResA (Ex × St) := match S with
  | { tm := [(0, V.d (D.sl false 5 l)), (1, V.d (D.str name)), (5, V.d (D.int IntKind.i64 i))], mem := [] } => ⟨A.spec_AssignsTo_l2 l name, M.spec_AssignsTo_l2 l name i⟩
  | _ => .none
theorem C.spec_AssignsTo_l2 : LpOk X0 10 2 (loopCode X0.P 10 2) (PL.spec_AssignsTo_l2) := by
  refine ⟨by kernel_rfl, fun S r hr => ?_⟩
  unfold PL.spec_AssignsTo_l2 at hr
  split at hr
  · obtain ⟨x, hx, rfl⟩ := ResA.val_some hr
    exact lp_sound (K := K.spec_AssignsTo_l2) (L := L.spec_AssignsTo_l2) (b := M.spec_AssignsTo_l2_b _ _) (tm := T.spec_AssignsTo_l2 _ _) (tx := (A.spec_AssignsTo_l2 _ _).enc) (kcons_ok (P.spec_l1In_ok C.spec_l1In pnil_ok) knil_ok) (by rw [LC.spec_AssignsTo_l2]; exact LOk.nil) (fun s => by rw [E.spec_AssignsTo_l2, M.spec_AssignsTo_l2_n]; congr 1; funext r; cases r <;> first | rfl | exact Alt.go_eq _ _ _) (by intro t; rcases t with t | t <;> first | (intro h; cases h) | (intro h; cases h)) hx (s := _)
  · cases hr
noncomputable def M.spec_AssignsTo_C {R : Type} (l : List Row) (name : List UInt8) (k : Bool → Option R) : Option R :=
  (M.spec_AssignsTo_l2 l name 0).bind fun u104 =>
  sumE u104 (fun t102 => (k true)) fun u105 =>
   letE u105 fun t103 => (k false)
noncomputable def M.spec_AssignsTo (l : List Row) (name : List UInt8) : Option (Bool) := M.spec_AssignsTo_C l name some
theorem M.spec_AssignsTo_n {R : Type} (l : List Row) (name : List UInt8) (k : Bool → Option R) : M.spec_AssignsTo_C l name k = (M.spec_AssignsTo_C l name some).bind k := by
  simp only [M.spec_AssignsTo_C, bif_bind, bind_bind, some_bind, none_bind, sumE_bind, optE_bind, letE_bind]
noncomputable def K.spec_AssignsTo : KonC := knil
noncomputable def L.spec_AssignsTo : LoopC := (lcons 2 (PL.spec_AssignsTo_l2) lnil)
theorem E.spec_AssignsTo {R : Type} (l : List Row) (name : List UInt8) (k : List Row → List Cell → Option R) : bodyC X0 (K.spec_AssignsTo) (L.spec_AssignsTo) 10 [V.d (D.sl false 5 l), V.d (D.str name)] [] k = M.spec_AssignsTo_C l name (fun r => k [[D.bool r]] []) := by kernel_rfl
theorem LC.spec_AssignsTo : loops (codeOf X0.P 10) = [loopCode X0.P 10 2] := by kernel_rfl
theorem C.spec_AssignsTo : H.spec_AssignsTo (M.spec_AssignsTo) := by
  intro l name r h
  exact fn_sound (enc := fun r => ([[D.bool r]], [])) (K := K.spec_AssignsTo) (L := L.spec_AssignsTo) (by kernel_rfl) knil_ok (by rw [LC.spec_AssignsTo]; exact (LOk.cons (LpOk.at (C.spec_AssignsTo_l2) (fun _ => rfl)) LOk.nil)) (by rw [E.spec_AssignsTo, M.spec_AssignsTo_n] <;> rfl) h

/-! impl_within -/
def H.impl_within (o : Int → Int → Int → Option (Bool)) : Prop := ∀ (n' : Int) (low : Int) (high : Int) (r : Bool), o n' low high = some r → call X0 36 [V.d (D.int IntKind.i64 n'), V.d (D.int IntKind.i64 low), V.d (D.int IntKind.i64 high)] [] = some ([[D.bool r]], [])
def P.impl_within (o : Int → Int → Int → Option (Bool)) (q : List V → List Cell → Res (List Row × List Cell)) (a : List V) (c : List Cell) : Res (List Row × List Cell) := match a, c with
  | [V.d (D.int IntKind.i64 n'), V.d (D.int IntKind.i64 low), V.d (D.int IntKind.i64 high)], [] => ⟨Bool, o n' low high, fun r => ([[D.bool r]], [])⟩
  | a, c => q a c
theorem P.impl_within_ok {o : Int → Int → Int → Option (Bool)} {q : List V → List Cell → Res (List Row × List Cell)} (h : H.impl_within o) (hq : FnOk X0 36 q) : FnOk X0 36 (P.impl_within o q) := by
  intro a c r hr
  unfold P.impl_within at hr
  split at hr
  · obtain ⟨x, hx, rfl⟩ := Res.val_some hr
    exact h _ _ _ x hx
  · exact hq _ _ _ hr
noncomputable def M.impl_within_C {R : Type} (n' : Int) (low : Int) (high : Int) (k : Bool → Option R) : Option R :=
  bif decide (n' ≥ low) then (k (decide (n' ≤ high))) else (k false)
noncomputable def M.impl_within (n' : Int) (low : Int) (high : Int) : Option (Bool) := M.impl_within_C n' low high some
theorem M.impl_within_n {R : Type} (n' : Int) (low : Int) (high : Int) (k : Bool → Option R) : M.impl_within_C n' low high k = (M.impl_within_C n' low high some).bind k := by
  simp only [M.impl_within_C, bif_bind, bind_bind, some_bind, none_bind, sumE_bind, optE_bind, letE_bind]
noncomputable def K.impl_within : KonC := knil
noncomputable def L.impl_within : LoopC := lnil
theorem E.impl_within {R : Type} (n' : Int) (low : Int) (high : Int) (k : List Row → List Cell → Option R) : bodyC X0 (K.impl_within) (L.impl_within) 36 [V.d (D.int IntKind.i64 n'), V.d (D.int IntKind.i64 low), V.d (D.int IntKind.i64 high)] [] k = M.impl_within_C n' low high (fun r => k [[D.bool r]] []) := by kernel_rfl
theorem LC.impl_within : loops (codeOf X0.P 36) = [] := by kernel_rfl
theorem C.impl_within : H.impl_within (M.impl_within) := by
  intro n' low high r h
  exact fn_sound (enc := fun r => ([[D.bool r]], [])) (K := K.impl_within) (L := L.impl_within) (by kernel_rfl) knil_ok (by rw [LC.impl_within]; exact LOk.nil) (by rw [E.impl_within, M.impl_within_n] <;> rfl) h

/-! impl_AssignsTo -/
def H.impl_AssignsTo (o : List Row → List UInt8 → Option (Bool)) : Prop := ∀ (l : List Row) (name : List UInt8) (r : Bool), o l name = some r → call X0 12 [V.d (D.sl false 5 l), V.d (D.str name)] [] = some ([[D.bool r]], [])
def P.impl_AssignsTo (o : List Row → List UInt8 → Option (Bool)) (q : List V → List Cell → Res (List Row × List Cell)) (a : List V) (c : List Cell) : Res (List Row × List Cell) := match a, c with
  | [V.d (D.sl false 5 l), V.d (D.str name)], [] => ⟨Bool, o l name, fun r => ([[D.bool r]], [])⟩
  | a, c => q a c
theorem P.impl_AssignsTo_ok {o : List Row → List UInt8 → Option (Bool)} {q : List V → List Cell → Res (List Row × List Cell)} (h : H.impl_AssignsTo o) (hq : FnOk X0 12 q) : FnOk X0 12 (P.impl_AssignsTo o q) := by
  intro a c r hr
  unfold P.impl_AssignsTo at hr
  split at hr
  · obtain ⟨x, hx, rfl⟩ := Res.val_some hr
    exact h _ _ x hx
  · exact hq _ _ _ hr
noncomputable def M.impl_AssignsTo_l2_C {R : Type} (l : List Row) (name : List UInt8) (v7 : List Row) (v8 : Int) (s : Int) (kn : Int → Option R) (ke : (Unit) ⊕ (Int × Bool) → Option R) : Option R := match s with
  | v9 =>
    bif decide (v9 < v8) then
     ((idx v7 v9).bind fun row108 =>
      ((cInt IntKind.i64 row108 0).bind fun n109 =>
       ((cInt IntKind.i64 row108 1).bind fun n110 =>
        ((cStr row108 2).bind fun s111 =>
         ((cStr row108 3).bind fun s112 =>
          ((cSl 1 row108 4).bind fun rows113 =>
           (bif n109 == 15 then
            (bif n109 == 15 then
             (bif decide ((↑rows113.length : Int) > 0) then
              ((idx rows113 0).bind fun row114 =>
               ((cInt IntKind.i64 row114 0).bind fun n115 =>
                ((M.impl_within n115 0 (IntKind.i64.wrap ((↑l.length : Int) - 1))).bind fun r116 =>
                 (bif r116 then
                  ((idx rows113 0).bind fun row117 =>
                   ((cInt IntKind.i64 row117 0).bind fun n118 =>
                    ((idx l n118).bind fun row119 =>
                     ((cInt IntKind.i64 row119 0).bind fun n120 =>
                      (bif n120 == 1 then
                       ((idx rows113 0).bind fun row121 =>
                        ((cInt IntKind.i64 row121 0).bind fun n122 =>
                         ((idx l n122).bind fun row123 =>
                          ((cStr row123 2).bind fun s124 => (bif s124 == name then (ke (.inl ())) else (kn (IntKind.i64.wrap (v9 + 1)))))))) else (kn (IntKind.i64.wrap (v9 + 1)))))))) else (kn (IntKind.i64.wrap (v9 + 1))))))) else (kn (IntKind.i64.wrap (v9 + 1)))) else
             (bif n109 == 32 then (bif s111 == name then (ke (.inl ())) else (kn (IntKind.i64.wrap (v9 + 1)))) else (kn (IntKind.i64.wrap (v9 + 1))))) else
            (bif n109 == 9 then
             (bif n109 == 9 then
              (bif decide ((↑rows113.length : Int) > 0) then
               ((idx rows113 0).bind fun row125 =>
                ((cInt IntKind.i64 row125 0).bind fun n126 =>
                 ((M.impl_within n126 0 (IntKind.i64.wrap ((↑l.length : Int) - 1))).bind fun r127 =>
                  (bif r127 then
                   ((idx rows113 0).bind fun row128 =>
                    ((cInt IntKind.i64 row128 0).bind fun n129 =>
                     ((idx l n129).bind fun row130 =>
                      ((cInt IntKind.i64 row130 0).bind fun n131 =>
                       (bif n131 == 1 then
                        ((idx rows113 0).bind fun row132 =>
                         ((cInt IntKind.i64 row132 0).bind fun n133 =>
                          ((idx l n133).bind fun row134 =>
                           ((cStr row134 2).bind fun s135 => (bif s135 == name then (ke (.inl ())) else (kn (IntKind.i64.wrap (v9 + 1)))))))) else (kn (IntKind.i64.wrap (v9 + 1)))))))) else (kn (IntKind.i64.wrap (v9 + 1))))))) else (kn (IntKind.i64.wrap (v9 + 1)))) else
              (bif n109 == 32 then (bif s111 == name then (ke (.inl ())) else (kn (IntKind.i64.wrap (v9 + 1)))) else (kn (IntKind.i64.wrap (v9 + 1))))) else
             (bif n109 == 10 then
              (bif decide ((↑rows113.length : Int) > 0) then
               ((idx rows113 0).bind fun row136 =>
                ((cInt IntKind.i64 row136 0).bind fun n137 =>
                 ((M.impl_within n137 0 (IntKind.i64.wrap ((↑l.length : Int) - 1))).bind fun r138 =>
                  (bif r138 then
                   ((idx rows113 0).bind fun row139 =>
                    ((cInt IntKind.i64 row139 0).bind fun n140 =>
                     ((idx l n140).bind fun row141 =>
                      ((cInt IntKind.i64 row141 0).bind fun n142 =>
                       (bif n142 == 1 then
                        ((idx rows113 0).bind fun row143 =>
                         ((cInt IntKind.i64 row143 0).bind fun n144 =>
                          ((idx l n144).bind fun row145 =>
                           ((cStr row145 2).bind fun s146 => (bif s146 == name then (ke (.inl ())) else (kn (IntKind.i64.wrap (v9 + 1)))))))) else (kn (IntKind.i64.wrap (v9 + 1)))))))) else (kn (IntKind.i64.wrap (v9 + 1))))))) else (kn (IntKind.i64.wrap (v9 + 1)))) else
              (bif n109 == 32 then (bif s111 == name then (ke (.inl ())) else (kn (IntKind.i64.wrap (v9 + 1)))) else (kn (IntKind.i64.wrap (v9 + 1))))))))))))) else (ke (.inr ((v9, decide (v9 < v8)))))
noncomputable def M.impl_AssignsTo_l2_b (l : List Row) (name : List UInt8) (v7 : List Row) (v8 : Int) (s : Int) : Option ((Int) ⊕ ((Unit) ⊕ (Int × Bool))) := M.impl_AssignsTo_l2_C l name v7 v8 s (fun s => some (.inl s)) (fun t => some (.inr t))
noncomputable def M.impl_AssignsTo_l2 (l : List Row) (name : List UInt8) (v7 : List Row) (v8 : Int) (s : Int) : Option ((Unit) ⊕ (Int × Bool)) := loopM (M.impl_AssignsTo_l2_b l name v7 v8) s
theorem M.impl_AssignsTo_l2_n {R : Type} (l : List Row) (name : List UInt8) (v7 : List Row) (v8 : Int) (s : Int) (kn : Int → Option R) (ke : (Unit) ⊕ (Int × Bool) → Option R) : M.impl_AssignsTo_l2_C l name v7 v8 s kn ke = (M.impl_AssignsTo_l2_b l name v7 v8 s).bind fun r => match r with | .inl s => kn s | .inr t => ke t := by
  skip
  all_goals
    simp only [M.impl_AssignsTo_l2_b, M.impl_AssignsTo_l2_C, bif_bind, bind_bind, some_bind, none_bind, sumE_bind, optE_bind, letE_bind]
def A.impl_AssignsTo_l2 (l : List Row) (name : List UInt8) (v7 : List Row) (v8 : Int) : Alt (Ex × St) := .sum (.leaf (Unit) (fun t => (Ex.ret, { tm := [(4, V.d (D.bool true))], mem := [] }))) (.leaf (Int × Bool) (fun t => (Ex.exit 0, { tm := [(0, V.d (D.sl false 5 l)), (1, V.d (D.str name)), (7, V.d (D.sl false 5 v7)), (8, V.d (D.int IntKind.i64 v8)), (9, V.d (D.int IntKind.i64 t.fst)), (10, V.d (D.bool t.snd))], mem := [] })))
def T.impl_AssignsTo_l2 (l : List Row) (name : List UInt8) (v7 : List Row) (v8 : Int) (s : Int) : St := match s with
  | v9 => { tm := [(0, V.d (D.sl false 5 l)), (1, V.d (D.str name)), (7, V.d (D.sl false 5 v7)), (8, V.d (D.int IntKind.i64 v8)), (9, V.d (D.int IntKind.i64 v9))], mem := [] }
noncomputable def K.impl_AssignsTo_l2 : KonC := (kcons 36 (P.impl_within M.impl_within pnil) knil)
noncomputable def L.impl_AssignsTo_l2 : LoopC := lnil
theorem E.impl_AssignsTo_l2 {R : Type} (l : List Row) (name : List UInt8) (v7 : List Row) (v8 : Int) (s : Int) (k : Ex → St → Option R) : denC X0 (K.impl_AssignsTo_l2) (L.impl_AssignsTo_l2) 12 (loopCode X0.P 12 2) (T.impl_AssignsTo_l2 l name v7 v8 s) k = M.impl_AssignsTo_l2_C l name v7 v8 s (fun s => k .normal (T.impl_AssignsTo_l2 l name v7 v8 s)) (fun t => (A.impl_AssignsTo_l2 l name v7 v8).go t fun r => k r.1 r.2) := by
  skip
  all_goals kernel_rfl
theorem LC.impl_AssignsTo_l2 : loops (loopCode X0.P 12 2) = [] := by kernel_rfl
noncomputable def PL.impl_AssignsTo_l2 (S : St) : ResA (Ex × St) := match S with
  | { tm := [(0, V.d (D.sl false 5 l)), (1, V.d (D.str name)), (7, V.d (D.sl false 5 v7)), (8, V.d (D.int IntKind.i64 v8)), (9, V.d (D.int IntKind.i64 v9))], mem := [] } => ⟨A.impl_AssignsTo_l2 l name v7 v8, M.impl_AssignsTo_l2 l name v7 v8 v9⟩
  | _ => .none
theorem C.impl_AssignsTo_l2 : LpOk X0 12 2 (loopCode X0.P 12 2) (PL.impl_AssignsTo_l2) := by
  refine ⟨by kernel_rfl, fun S r hr => ?_⟩
  unfold PL.impl_AssignsTo_l2 at hr
  split at hr
  · obtain ⟨x, hx, rfl⟩ := ResA.val_some hr
    exact lp_sound (K := K.impl_AssignsTo_l2) (L := L.impl_AssignsTo_l2) (b := M.impl_AssignsTo_l2_b _ _ _ _) (tm := T.impl_AssignsTo_l2 _ _ _ _) (tx := (A.impl_AssignsTo_l2 _ _ _ _).enc) (kcons_ok (P.impl_within_ok C.impl_within pnil_ok) knil_ok) (by rw [LC.impl_AssignsTo_l2]; exact LOk.nil) (fun s => by rw [E.impl_AssignsTo_l2, M.impl_AssignsTo_l2_n]; congr 1; funext r; cases r <;> first | rfl | exact Alt.go_eq _ _ _) (by intro t; rcases t with t | t <;> first | (intro h; cases h) | (intro h; cases h)) hx (s := _)
  · cases hr
noncomputable def M.impl_AssignsTo_C {R : Type} (l : List Row) (name : List UInt8) (k : Bool → Option R) : Option R :=
  (M.impl_AssignsTo_l2 l name l ((↑l.length : Int)) 0).bind fun u149 =>
  sumE u149 (fun t147 => (k true)) fun u150 =>
   letE u150 fun t148 => (k false)
noncomputable def M.impl_AssignsTo (l : List Row) (name : List UInt8) : Option (Bool) := M.impl_AssignsTo_C l name some
theorem M.impl_AssignsTo_n {R : Type} (l : List Row) (name : List UInt8) (k : Bool → Option R) : M.impl_AssignsTo_C l name k = (M.impl_AssignsTo_C l name some).bind k := by
  simp only [M.impl_AssignsTo_C, bif_bind, bind_bind, some_bind, none_bind, sumE_bind, optE_bind, letE_bind]
noncomputable def K.impl_AssignsTo : KonC := knil
noncomputable def L.impl_AssignsTo : LoopC := (lcons 2 (PL.impl_AssignsTo_l2) lnil)
theorem E.impl_AssignsTo {R : Type} (l : List Row) (name : List UInt8) (k : List Row → List Cell → Option R) : bodyC X0 (K.impl_AssignsTo) (L.impl_AssignsTo) 12 [V.d (D.sl false 5 l), V.d (D.str name)] [] k = M.impl_AssignsTo_C l name (fun r => k [[D.bool r]] []) := by kernel_rfl
theorem LC.impl_AssignsTo : loops (codeOf X0.P 12) = [loopCode X0.P 12 2] := by kernel_rfl
theorem C.impl_AssignsTo : H.impl_AssignsTo (M.impl_AssignsTo) := by
  intro l name r h
  exact fn_sound (enc := fun r => ([[D.bool r]], [])) (K := K.impl_AssignsTo) (L := L.impl_AssignsTo) (by kernel_rfl) knil_ok (by rw [LC.impl_AssignsTo]; exact (LOk.cons (LpOk.at (C.impl_AssignsTo_l2) (fun _ => rfl)) LOk.nil)) (by rw [E.impl_AssignsTo, M.impl_AssignsTo_n] <;> rfl) h

/-! laws_eqIntS -/
def H.laws_eqIntS (o : List Row → List Row → Option (Bool)) : Prop := ∀ (a : List Row) (b : List Row) (r : Bool), o a b = some r → call X0 18 [V.d (D.sl false 1 a), V.d (D.sl false 1 b)] [] = some ([[D.bool r]], [])
def P.laws_eqIntS (o : List Row → List Row → Option (Bool)) (q : List V → List Cell → Res (List Row × List Cell)) (a : List V) (c : List Cell) : Res (List Row × List Cell) := match a, c with
  | [V.d (D.sl false 1 a), V.d (D.sl false 1 b)], [] => ⟨Bool, o a b, fun r => ([[D.bool r]], [])⟩
  | a, c => q a c
theorem P.laws_eqIntS_ok {o : List Row → List Row → Option (Bool)} {q : List V → List Cell → Res (List Row × List Cell)} (h : H.laws_eqIntS o) (hq : FnOk X0 18 q) : FnOk X0 18 (P.laws_eqIntS o q) := by
  intro a c r hr
  unfold P.laws_eqIntS at hr
  split at hr
  · obtain ⟨x, hx, rfl⟩ := Res.val_some hr
    exact h _ _ x hx
  · exact hq _ _ _ hr
noncomputable def M.laws_eqIntS_l4_C {R : Type} (a : List Row) (b : List Row) (s : Int) (kn : Int → Option R) (ke : (Unit) ⊕ (Int × Bool) → Option R) : Option R := match s with
  | i =>
    bif decide (i < (↑a.length : Int)) then
     ((idx a i).bind fun row165 =>
      ((cInt IntKind.i64 row165 0).bind fun n166 =>
       ((idx b i).bind fun row167 =>
        ((cInt IntKind.i64 row167 0).bind fun n168 => (bif n166 != n168 then (ke (.inl ())) else (kn (IntKind.i64.wrap (i + 1)))))))) else (ke (.inr ((i, decide (i < (↑a.length : Int))))))
noncomputable def M.laws_eqIntS_l4_b (a : List Row) (b : List Row) (s : Int) : Option ((Int) ⊕ ((Unit) ⊕ (Int × Bool))) := M.laws_eqIntS_l4_C a b s (fun s => some (.inl s)) (fun t => some (.inr t))
noncomputable def M.laws_eqIntS_l4 (a : List Row) (b : List Row) (s : Int) : Option ((Unit) ⊕ (Int × Bool)) := loopM (M.laws_eqIntS_l4_b a b) s
theorem M.laws_eqIntS_l4_n {R : Type} (a : List Row) (b : List Row) (s : Int) (kn : Int → Option R) (ke : (Unit) ⊕ (Int × Bool) → Option R) : M.laws_eqIntS_l4_C a b s kn ke = (M.laws_eqIntS_l4_b a b s).bind fun r => match r with | .inl s => kn s | .inr t => ke t := by
  skip
  all_goals
    simp only [M.laws_eqIntS_l4_b, M.laws_eqIntS_l4_C, bif_bind, bind_bind, some_bind, none_bind, sumE_bind, optE_bind, letE_bind]
def A.laws_eqIntS_l4 (a : List Row) (b : List Row) : Alt (Ex × St) := .sum (.leaf (Unit) (fun t => (Ex.ret, { tm := [(4, V.d (D.bool false))], mem := [] }))) (.leaf (Int × Bool) (fun t => (Ex.exit 0, { tm := [(0, V.d (D.sl false 1 a)), (1, V.d (D.sl false 1 b)), (5, V.d (D.int IntKind.i64 t.fst)), (14, V.d (D.bool t.snd))], mem := [] })))
def T.laws_eqIntS_l4 (a : List Row) (b : List Row) (s : Int) : St := match s with
  | i => { tm := [(0, V.d (D.sl false 1 a)), (1, V.d (D.sl false 1 b)), (5, V.d (D.int IntKind.i64 i))], mem := [] }
noncomputable def K.laws_eqIntS_l4 : KonC := knil
noncomputable def L.laws_eqIntS_l4 : LoopC := lnil
theorem E.laws_eqIntS_l4 {R : Type} (a : List Row) (b : List Row) (s : Int) (k : Ex → St → Option R) : denC X0 (K.laws_eqIntS_l4) (L.laws_eqIntS_l4) 18 (loopCode X0.P 18 4) (T.laws_eqIntS_l4 a b s) k = M.laws_eqIntS_l4_C a b s (fun s => k .normal (T.laws_eqIntS_l4 a b s)) (fun t => (A.laws_eqIntS_l4 a b).go t fun r => k r.1 r.2) := by
  skip
  all_goals kernel_rfl
theorem LC.laws_eqIntS_l4 : loops (loopCode X0.P 18 4) = [] := by kernel_rfl
noncomputable def PL.laws_eqIntS_l4 (S : St) : ResA (Ex × St) := match S with
  | { tm := [(0, V.d (D.sl false 1 a)), (1, V.d (D.sl false 1 b)), (5, V.d (D.int IntKind.i64 i))], mem := [] } => ⟨A.laws_eqIntS_l4 a b, M.laws_eqIntS_l4 a b i⟩
  | _ => .none
theorem C.laws_eqIntS_l4 : LpOk X0 18 4 (loopCode X0.P 18 4) (PL.laws_eqIntS_l4) := by
  refine ⟨by kernel_rfl, fun S r hr => ?_⟩
  unfold PL.laws_eqIntS_l4 at hr
  split at hr
  · obtain ⟨x, hx, rfl⟩ := ResA.val_some hr
    exact lp_sound (K := K.laws_eqIntS_l4) (L := L.laws_eqIntS_l4) (b := M.laws_eqIntS_l4_b _ _) (tm := T.laws_eqIntS_l4 _ _) (tx := (A.laws_eqIntS_l4 _ _).enc) knil_ok (by rw [LC.laws_eqIntS_l4]; exact LOk.nil) (fun s => by rw [E.laws_eqIntS_l4, M.laws_eqIntS_l4_n]; congr 1; funext r; cases r <;> first | rfl | exact Alt.go_eq _ _ _) (by intro t; rcases t with t | t <;> first | (intro h; cases h) | (intro h; cases h)) hx (s := _)
  · cases hr
noncomputable def M.laws_eqIntS_C {R : Type} (a : List Row) (b : List Row) (k : Bool → Option R) : Option R :=
  bif (↑a.length : Int) != (↑b.length : Int) then (k false) else
   ((M.laws_eqIntS_l4 a b 0).bind fun u171 =>
   sumE u171 (fun t169 => (k false)) fun u172 =>
    letE u172 fun t170 => (k true))
noncomputable def M.laws_eqIntS (a : List Row) (b : List Row) : Option (Bool) := M.laws_eqIntS_C a b some
theorem M.laws_eqIntS_n {R : Type} (a : List Row) (b : List Row) (k : Bool → Option R) : M.laws_eqIntS_C a b k = (M.laws_eqIntS_C a b some).bind k := by
  simp only [M.laws_eqIntS_C, bif_bind, bind_bind, some_bind, none_bind, sumE_bind, optE_bind, letE_bind]
noncomputable def K.laws_eqIntS : KonC := knil
noncomputable def L.laws_eqIntS : LoopC := (lcons 4 (PL.laws_eqIntS_l4) lnil)
theorem E.laws_eqIntS {R : Type} (a : List Row) (b : List Row) (k : List Row → List Cell → Option R) : bodyC X0 (K.laws_eqIntS) (L.laws_eqIntS) 18 [V.d (D.sl false 1 a), V.d (D.sl false 1 b)] [] k = M.laws_eqIntS_C a b (fun r => k [[D.bool r]] []) := by kernel_rfl
theorem LC.laws_eqIntS : loops (codeOf X0.P 18) = [loopCode X0.P 18 4] := by kernel_rfl
theorem C.laws_eqIntS : H.laws_eqIntS (M.laws_eqIntS) := by
  intro a b r h
  exact fn_sound (enc := fun r => ([[D.bool r]], [])) (K := K.laws_eqIntS) (L := L.laws_eqIntS) (by kernel_rfl) knil_ok (by rw [LC.laws_eqIntS]; exact (LOk.cons (LpOk.at (C.laws_eqIntS_l4) (fun _ => rfl)) LOk.nil)) (by rw [E.laws_eqIntS, M.laws_eqIntS_n] <;> rfl) h

/-! laws_eqNode -/
def H.laws_eqNode (o : Int → Int → List UInt8 → List UInt8 → List Row → Int → Int → List UInt8 → List UInt8 → List Row → Option (Bool)) : Prop := ∀ (a : Int) (a1 : Int) (a2 : List UInt8) (a3 : List UInt8) (a4 : List Row) (b : Int) (b1 : Int) (b2 : List UInt8) (b3 : List UInt8) (b4 : List Row) (r : Bool), o a a1 a2 a3 a4 b b1 b2 b3 b4 = some r → call X0 37 [V.agg [V.d (D.int IntKind.i64 a), V.d (D.int IntKind.i64 a1), V.d (D.str a2), V.d (D.str a3), V.d (D.sl false 1 a4)], V.agg [V.d (D.int IntKind.i64 b), V.d (D.int IntKind.i64 b1), V.d (D.str b2), V.d (D.str b3), V.d (D.sl false 1 b4)]] [] = some ([[D.bool r]], [])
def P.laws_eqNode (o : Int → Int → List UInt8 → List UInt8 → List Row → Int → Int → List UInt8 → List UInt8 → List Row → Option (Bool)) (q : List V → List Cell → Res (List Row × List Cell)) (a : List V) (c : List Cell) : Res (List Row × List Cell) := match a, c with
  | [V.agg [V.d (D.int IntKind.i64 a), V.d (D.int IntKind.i64 a1), V.d (D.str a2), V.d (D.str a3), V.d (D.sl false 1 a4)], V.agg [V.d (D.int IntKind.i64 b), V.d (D.int IntKind.i64 b1), V.d (D.str b2), V.d (D.str b3), V.d (D.sl false 1 b4)]], [] => ⟨Bool, o a a1 a2 a3 a4 b b1 b2 b3 b4, fun r => ([[D.bool r]], [])⟩
  | a, c => q a c
theorem P.laws_eqNode_ok {o : Int → Int → List UInt8 → List UInt8 → List Row → Int → Int → List UInt8 → List UInt8 → List Row → Option (Bool)} {q : List V → List Cell → Res (List Row × List Cell)} (h : H.laws_eqNode o) (hq : FnOk X0 37 q) : FnOk X0 37 (P.laws_eqNode o q) := by
  intro a c r hr
  unfold P.laws_eqNode at hr
  split at hr
  · obtain ⟨x, hx, rfl⟩ := Res.val_some hr
    exact h _ _ _ _ _ _ _ _ _ _ x hx
  · exact hq _ _ _ hr
noncomputable def M.laws_eqNode_C {R : Type} (a : Int) (a1 : Int) (a2 : List UInt8) (a3 : List UInt8) (a4 : List Row) (b : Int) (b1 : Int) (b2 : List UInt8) (b3 : List UInt8) (b4 : List Row) (k : Bool → Option R) : Option R :=
  bif a != b then (k false) else
   (bif a1 != b1 then (k false) else
    (bif !a2 == b2 then (k false) else
     (bif !a3 == b3 then (k false) else ((M.laws_eqIntS a4 b4).bind fun r173 => (bif !r173 then (k false) else (k true))))))
noncomputable def M.laws_eqNode (a : Int) (a1 : Int) (a2 : List UInt8) (a3 : List UInt8) (a4 : List Row) (b : Int) (b1 : Int) (b2 : List UInt8) (b3 : List UInt8) (b4 : List Row) : Option (Bool) := M.laws_eqNode_C a a1 a2 a3 a4 b b1 b2 b3 b4 some
theorem M.laws_eqNode_n {R : Type} (a : Int) (a1 : Int) (a2 : List UInt8) (a3 : List UInt8) (a4 : List Row) (b : Int) (b1 : Int) (b2 : List UInt8) (b3 : List UInt8) (b4 : List Row) (k : Bool → Option R) : M.laws_eqNode_C a a1 a2 a3 a4 b b1 b2 b3 b4 k = (M.laws_eqNode_C a a1 a2 a3 a4 b b1 b2 b3 b4 some).bind k := by
  simp only [M.laws_eqNode_C, bif_bind, bind_bind, some_bind, none_bind, sumE_bind, optE_bind, letE_bind]
noncomputable def K.laws_eqNode : KonC := (kcons 18 (P.laws_eqIntS M.laws_eqIntS pnil) knil)
noncomputable def L.laws_eqNode : LoopC := lnil
theorem E.laws_eqNode {R : Type} (a : Int) (a1 : Int) (a2 : List UInt8) (a3 : List UInt8) (a4 : List Row) (b : Int) (b1 : Int) (b2 : List UInt8) (b3 : List UInt8) (b4 : List Row) (k : List Row → List Cell → Option R) : bodyC X0 (K.laws_eqNode) (L.laws_eqNode) 37 [V.agg [V.d (D.int IntKind.i64 a), V.d (D.int IntKind.i64 a1), V.d (D.str a2), V.d (D.str a3), V.d (D.sl false 1 a4)], V.agg [V.d (D.int IntKind.i64 b), V.d (D.int IntKind.i64 b1), V.d (D.str b2), V.d (D.str b3), V.d (D.sl false 1 b4)]] [] k = M.laws_eqNode_C a a1 a2 a3 a4 b b1 b2 b3 b4 (fun r => k [[D.bool r]] []) := by kernel_rfl
theorem LC.laws_eqNode : loops (codeOf X0.P 37) = [] := by kernel_rfl
theorem C.laws_eqNode : H.laws_eqNode (M.laws_eqNode) := by
  intro a a1 a2 a3 a4 b b1 b2 b3 b4 r h
  exact fn_sound (enc := fun r => ([[D.bool r]], [])) (K := K.laws_eqNode) (L := L.laws_eqNode) (by kernel_rfl) (kcons_ok (P.laws_eqIntS_ok C.laws_eqIntS pnil_ok) knil_ok) (by rw [LC.laws_eqNode]; exact LOk.nil) (by rw [E.laws_eqNode, M.laws_eqNode_n] <;> rfl) h

/-! laws_eqNodeS -/
def H.laws_eqNodeS (o : List Row → List Row → Option (Bool)) : Prop := ∀ (a : List Row) (b : List Row) (r : Bool), o a b = some r → call X0 13 [V.d (D.sl false 5 a), V.d (D.sl false 5 b)] [] = some ([[D.bool r]], [])
def P.laws_eqNodeS (o : List Row → List Row → Option (Bool)) (q : List V → List Cell → Res (List Row × List Cell)) (a : List V) (c : List Cell) : Res (List Row × List Cell) := match a, c with
  | [V.d (D.sl false 5 a), V.d (D.sl false 5 b)], [] => ⟨Bool, o a b, fun r => ([[D.bool r]], [])⟩
  | a, c => q a c
theorem P.laws_eqNodeS_ok {o : List Row → List Row → Option (Bool)} {q : List V → List Cell → Res (List Row × List Cell)} (h : H.laws_eqNodeS o) (hq : FnOk X0 13 q) : FnOk X0 13 (P.laws_eqNodeS o q) := by
  intro a c r hr
  unfold P.laws_eqNodeS at hr
  split at hr
  · obtain ⟨x, hx, rfl⟩ := Res.val_some hr
    exact h _ _ x hx
  · exact hq _ _ _ hr
noncomputable def M.laws_eqNodeS_l4_C {R : Type} (a : List Row) (b : List Row) (s : Int) (kn : Int → Option R) (ke : (Unit) ⊕ (Int × Bool) → Option R) : Option R := match s with
  | i =>
    bif decide (i < (↑a.length : Int)) then
     ((idx a i).bind fun row153 =>
      ((cInt IntKind.i64 row153 0).bind fun n154 =>
       ((cInt IntKind.i64 row153 1).bind fun n155 =>
        ((cStr row153 2).bind fun s156 =>
         ((cStr row153 3).bind fun s157 =>
          ((cSl 1 row153 4).bind fun rows158 =>
           ((idx b i).bind fun row159 =>
            ((cInt IntKind.i64 row159 0).bind fun n160 =>
             ((cInt IntKind.i64 row159 1).bind fun n161 =>
              ((cStr row159 2).bind fun s162 =>
               ((cStr row159 3).bind fun s163 =>
                ((cSl 1 row159 4).bind fun rows164 =>
                 ((M.laws_eqNode n154 n155 s156 s157 rows158 n160 n161 s162 s163 rows164).bind fun r174 => (bif !r174 then (ke (.inl ())) else (kn (IntKind.i64.wrap (i + 1))))))))))))))))) else (ke (.inr ((i, decide (i < (↑a.length : Int))))))
noncomputable def M.laws_eqNodeS_l4_b (a : List Row) (b : List Row) (s : Int) : Option ((Int) ⊕ ((Unit) ⊕ (Int × Bool))) := M.laws_eqNodeS_l4_C a b s (fun s => some (.inl s)) (fun t => some (.inr t))
noncomputable def M.laws_eqNodeS_l4 (a : List Row) (b : List Row) (s : Int) : Option ((Unit) ⊕ (Int × Bool)) := loopM (M.laws_eqNodeS_l4_b a b) s
theorem M.laws_eqNodeS_l4_n {R : Type} (a : List Row) (b : List Row) (s : Int) (kn : Int → Option R) (ke : (Unit) ⊕ (Int × Bool) → Option R) : M.laws_eqNodeS_l4_C a b s kn ke = (M.laws_eqNodeS_l4_b a b s).bind fun r => match r with | .inl s => kn s | .inr t => ke t := by
  skip
  all_goals
    simp only [M.laws_eqNodeS_l4_b, M.laws_eqNodeS_l4_C, bif_bind, bind_bind, some_bind, none_bind, sumE_bind, optE_bind, letE_bind]
def A.laws_eqNodeS_l4 (a : List Row) (b : List Row) : Alt (Ex × St) := .sum (.leaf (Unit) (fun t => (Ex.ret, { tm := [(4, V.d (D.bool false))], mem := [] }))) (.leaf (Int × Bool) (fun t => (Ex.exit 0, { tm := [(0, V.d (D.sl false 5 a)), (1, V.d (D.sl false 5 b)), (5, V.d (D.int IntKind.i64 t.fst)), (14, V.d (D.bool t.snd))], mem := [] })))
def T.laws_eqNodeS_l4 (a : List Row) (b : List Row) (s : Int) : St := match s with
  | i => { tm := [(0, V.d (D.sl false 5 a)), (1, V.d (D.sl false 5 b)), (5, V.d (D.int IntKind.i64 i))], mem := [] }
noncomputable def K.laws_eqNodeS_l4 : KonC := (kcons 37 (P.laws_eqNode M.laws_eqNode pnil) knil)
noncomputable def L.laws_eqNodeS_l4 : LoopC := lnil
theorem E.laws_eqNodeS_l4 {R : Type} (a : List Row) (b : List Row) (s : Int) (k : Ex → St → Option R) : denC X0 (K.laws_eqNodeS_l4) (L.laws_eqNodeS_l4) 13 (loopCode X0.P 13 4) (T.laws_eqNodeS_l4 a b s) k = M.laws_eqNodeS_l4_C a b s (fun s => k .normal (T.laws_eqNodeS_l4 a b s)) (fun t => (A.laws_eqNodeS_l4 a b).go t fun r => k r.1 r.2) := by
  skip
  all_goals kernel_rfl
theorem LC.laws_eqNodeS_l4 : loops (loopCode X0.P 13 4) = [] := by kernel_rfl
noncomputable def PL.laws_eqNodeS_l4 (S : St) : ResA (Ex × St) := match S with
  | { tm := [(0, V.d (D.sl false 5 a)), (1, V.d (D.sl false 5 b)), (5, V.d (D.int IntKind.i64 i))], mem := [] } => ⟨A.laws_eqNodeS_l4 a b, M.laws_eqNodeS_l4 a b i⟩
  | _ => .none
theorem C.laws_eqNodeS_l4 : LpOk X0 13 4 (loopCode X0.P 13 4) (PL.laws_eqNodeS_l4) := by
  refine ⟨by kernel_rfl, fun S r hr => ?_⟩
  unfold PL.laws_eqNodeS_l4 at hr
  split at hr
  · obtain ⟨x, hx, rfl⟩ := ResA.val_some hr
    exact lp_sound (K := K.laws_eqNodeS_l4) (L := L.laws_eqNodeS_l4) (b := M.laws_eqNodeS_l4_b _ _) (tm := T.laws_eqNodeS_l4 _ _) (tx := (A.laws_eqNodeS_l4 _ _).enc) (kcons_ok (P.laws_eqNode_ok C.laws_eqNode pnil_ok) knil_ok) (by rw [LC.laws_eqNodeS_l4]; exact LOk.nil) (fun s => by rw [E.laws_eqNodeS_l4, M.laws_eqNodeS_l4_n]; congr 1; funext r; cases r <;> first | rfl | exact Alt.go_eq _ _ _) (by intro t; rcases t with t | t <;> first | (intro h; cases h) | (intro h; cases h)) hx (s := _)
  · cases hr
noncomputable def M.laws_eqNodeS_C {R : Type} (a : List Row) (b : List Row) (k : Bool → Option R) : Option R :=
  bif (↑a.length : Int) != (↑b.length : Int) then (k false) else
   ((M.laws_eqNodeS_l4 a b 0).bind fun u177 =>
   sumE u177 (fun t175 => (k false)) fun u178 =>
    letE u178 fun t176 => (k true))
noncomputable def M.laws_eqNodeS (a : List Row) (b : List Row) : Option (Bool) := M.laws_eqNodeS_C a b some
theorem M.laws_eqNodeS_n {R : Type} (a : List Row) (b : List Row) (k : Bool → Option R) : M.laws_eqNodeS_C a b k = (M.laws_eqNodeS_C a b some).bind k := by
  simp only [M.laws_eqNodeS_C, bif_bind, bind_bind, some_bind, none_bind, sumE_bind, optE_bind, letE_bind]
noncomputable def K.laws_eqNodeS : KonC := knil
noncomputable def L.laws_eqNodeS : LoopC := (lcons 4 (PL.laws_eqNodeS_l4) lnil)
theorem E.laws_eqNodeS {R : Type} (a : List Row) (b : List Row) (k : List Row → List Cell → Option R) : bodyC X0 (K.laws_eqNodeS) (L.laws_eqNodeS) 13 [V.d (D.sl false 5 a), V.d (D.sl false 5 b)] [] k = M.laws_eqNodeS_C a b (fun r => k [[D.bool r]] []) := by kernel_rfl
theorem LC.laws_eqNodeS : loops (codeOf X0.P 13) = [loopCode X0.P 13 4] := by kernel_rfl
theorem C.laws_eqNodeS : H.laws_eqNodeS (M.laws_eqNodeS) := by
  intro a b r h
  exact fn_sound (enc := fun r => ([[D.bool r]], [])) (K := K.laws_eqNodeS) (L := L.laws_eqNodeS) (by kernel_rfl) knil_ok (by rw [LC.laws_eqNodeS]; exact (LOk.cons (LpOk.at (C.laws_eqNodeS_l4) (fun _ => rfl)) LOk.nil)) (by rw [E.laws_eqNodeS, M.laws_eqNodeS_n] <;> rfl) h

/-! laws_FnExactAssignsTo -/
def H.laws_FnExactAssignsTo (o : List Row → List UInt8 → Option (Bool)) : Prop := ∀ (aL : List Row) (aName : List UInt8) (r : Bool), o aL aName = some r → call X0 3 [V.d (D.sl false 5 aL), V.d (D.str aName)] [] = some ([[D.bool r]], [])
def P.laws_FnExactAssignsTo (o : List Row → List UInt8 → Option (Bool)) (q : List V → List Cell → Res (List Row × List Cell)) (a : List V) (c : List Cell) : Res (List Row × List Cell) := match a, c with
  | [V.d (D.sl false 5 aL), V.d (D.str aName)], [] => ⟨Bool, o aL aName, fun r => ([[D.bool r]], [])⟩
  | a, c => q a c
theorem P.laws_FnExactAssignsTo_ok {o : List Row → List UInt8 → Option (Bool)} {q : List V → List Cell → Res (List Row × List Cell)} (h : H.laws_FnExactAssignsTo o) (hq : FnOk X0 3 q) : FnOk X0 3 (P.laws_FnExactAssignsTo o q) := by
  intro a c r hr
  unfold P.laws_FnExactAssignsTo at hr
  split at hr
  · obtain ⟨x, hx, rfl⟩ := Res.val_some hr
    exact h _ _ x hx
  · exact hq _ _ _ hr
noncomputable def M.laws_FnExactAssignsTo_C {R : Type} (aL : List Row) (aName : List UInt8) (k : Bool → Option R) : Option R :=
  bif decide ((↑aName.length : Int) > 1048576) then (k true) else
   ((M.laws_szNodeS aL 1048576).bind fun r12 =>
    (bif decide (r12 < 0) then (k true) else
     ((M.laws_toNodeS aL).bind fun r29 =>
      ((M.spec_AssignsTo (fzRows r29) aName).bind fun r106 =>
       ((M.laws_toNodeS aL).bind fun r107 =>
        ((M.impl_AssignsTo (fzRows r107) aName).bind fun r151 =>
         (bif !r151 == r106 then (k false) else
          ((M.laws_toNodeS aL).bind fun r152 =>
           ((M.laws_eqNodeS (fzRows r107) (fzRows r152)).bind fun r179 => (bif !r179 then (k false) else (k true)))))))))))
noncomputable def M.laws_FnExactAssignsTo (aL : List Row) (aName : List UInt8) : Option (Bool) := M.laws_FnExactAssignsTo_C aL aName some
theorem M.laws_FnExactAssignsTo_n {R : Type} (aL : List Row) (aName : List UInt8) (k : Bool → Option R) : M.laws_FnExactAssignsTo_C aL aName k = (M.laws_FnExactAssignsTo_C aL aName some).bind k := by
  simp only [M.laws_FnExactAssignsTo_C, bif_bind, bind_bind, some_bind, none_bind, sumE_bind, optE_bind, letE_bind]
noncomputable def K.laws_FnExactAssignsTo : KonC := (kcons 9 (P.laws_szNodeS M.laws_szNodeS pnil) (kcons 11 (P.laws_toNodeS M.laws_toNodeS pnil) (kcons 10 (P.spec_AssignsTo M.spec_AssignsTo pnil) (kcons 12 (P.impl_AssignsTo M.impl_AssignsTo pnil) (kcons 13 (P.laws_eqNodeS M.laws_eqNodeS pnil) knil)))))
noncomputable def L.laws_FnExactAssignsTo : LoopC := lnil
theorem E.laws_FnExactAssignsTo {R : Type} (aL : List Row) (aName : List UInt8) (k : List Row → List Cell → Option R) : bodyC X0 (K.laws_FnExactAssignsTo) (L.laws_FnExactAssignsTo) 3 [V.d (D.sl false 5 aL), V.d (D.str aName)] [] k = M.laws_FnExactAssignsTo_C aL aName (fun r => k [[D.bool r]] []) := by kernel_rfl
theorem LC.laws_FnExactAssignsTo : loops (codeOf X0.P 3) = [] := by kernel_rfl
theorem C.laws_FnExactAssignsTo : H.laws_FnExactAssignsTo (M.laws_FnExactAssignsTo) := by
  intro aL aName r h
  exact fn_sound (enc := fun r => ([[D.bool r]], [])) (K := K.laws_FnExactAssignsTo) (L := L.laws_FnExactAssignsTo) (by kernel_rfl) (kcons_ok (P.laws_szNodeS_ok C.laws_szNodeS pnil_ok) (kcons_ok (P.laws_toNodeS_ok C.laws_toNodeS pnil_ok) (kcons_ok (P.spec_AssignsTo_ok C.spec_AssignsTo pnil_ok) (kcons_ok (P.impl_AssignsTo_ok C.impl_AssignsTo pnil_ok) (kcons_ok (P.laws_eqNodeS_ok C.laws_eqNodeS pnil_ok) knil_ok))))) (by rw [LC.laws_FnExactAssignsTo]; exact LOk.nil) (by rw [E.laws_FnExactAssignsTo, M.laws_FnExactAssignsTo_n] <;> rfl) h

/-! laws_szToken -/
def H.laws_szToken (o : Int → List UInt8 → Int → Int → Option (Int)) : Prop := ∀ (a : Int) (a1 : List UInt8) (a2 : Int) (left : Int) (r : Int), o a a1 a2 left = some r → call X0 38 [V.agg [V.d (D.int IntKind.i64 a), V.d (D.str a1), V.d (D.int IntKind.i64 a2)], V.d (D.int IntKind.i64 left)] [] = some ([[D.int IntKind.i64 r]], [])
def P.laws_szToken (o : Int → List UInt8 → Int → Int → Option (Int)) (q : List V → List Cell → Res (List Row × List Cell)) (a : List V) (c : List Cell) : Res (List Row × List Cell) := match a, c with
  | [V.agg [V.d (D.int IntKind.i64 a), V.d (D.str a1), V.d (D.int IntKind.i64 a2)], V.d (D.int IntKind.i64 left)], [] => ⟨Int, o a a1 a2 left, fun r => ([[D.int IntKind.i64 r]], [])⟩
  | a, c => q a c
theorem P.laws_szToken_ok {o : Int → List UInt8 → Int → Int → Option (Int)} {q : List V → List Cell → Res (List Row × List Cell)} (h : H.laws_szToken o) (hq : FnOk X0 38 q) : FnOk X0 38 (P.laws_szToken o q) := by
  intro a c r hr
  unfold P.laws_szToken at hr
  split at hr
  · obtain ⟨x, hx, rfl⟩ := Res.val_some hr
    exact h _ _ _ _ x hx
  · exact hq _ _ _ hr
noncomputable def M.laws_szToken_C {R : Type} (a : Int) (a1 : List UInt8) (a2 : Int) (left : Int) (k : Int → Option R) : Option R :=
  bif decide (IntKind.i64.wrap (left - (↑a1.length : Int)) < 0) then (k (-1)) else (k (IntKind.i64.wrap (left - (↑a1.length : Int))))
noncomputable def M.laws_szToken (a : Int) (a1 : List UInt8) (a2 : Int) (left : Int) : Option (Int) := M.laws_szToken_C a a1 a2 left some
theorem M.laws_szToken_n {R : Type} (a : Int) (a1 : List UInt8) (a2 : Int) (left : Int) (k : Int → Option R) : M.laws_szToken_C a a1 a2 left k = (M.laws_szToken_C a a1 a2 left some).bind k := by
  simp only [M.laws_szToken_C, bif_bind, bind_bind, some_bind, none_bind, sumE_bind, optE_bind, letE_bind]
noncomputable def K.laws_szToken : KonC := knil
noncomputable def L.laws_szToken : LoopC := lnil
theorem E.laws_szToken {R : Type} (a : Int) (a1 : List UInt8) (a2 : Int) (left : Int) (k : List Row → List Cell → Option R) : bodyC X0 (K.laws_szToken) (L.laws_szToken) 38 [V.agg [V.d (D.int IntKind.i64 a), V.d (D.str a1), V.d (D.int IntKind.i64 a2)], V.d (D.int IntKind.i64 left)] [] k = M.laws_szToken_C a a1 a2 left (fun r => k [[D.int IntKind.i64 r]] []) := by kernel_rfl
theorem LC.laws_szToken : loops (codeOf X0.P 38) = [] := by kernel_rfl
theorem C.laws_szToken : H.laws_szToken (M.laws_szToken) := by
  intro a a1 a2 left r h
  exact fn_sound (enc := fun r => ([[D.int IntKind.i64 r]], [])) (K := K.laws_szToken) (L := L.laws_szToken) (by kernel_rfl) knil_ok (by rw [LC.laws_szToken]; exact LOk.nil) (by rw [E.laws_szToken, M.laws_szToken_n] <;> rfl) h

/-! laws_szTokenS -/
def H.laws_szTokenS (o : List Row → Int → Option (Int)) : Prop := ∀ (a : List Row) (left : Int) (r : Int), o a left = some r → call X0 14 [V.d (D.sl false 3 a), V.d (D.int IntKind.i64 left)] [] = some ([[D.int IntKind.i64 r]], [])
def P.laws_szTokenS (o : List Row → Int → Option (Int)) (q : List V → List Cell → Res (List Row × List Cell)) (a : List V) (c : List Cell) : Res (List Row × List Cell) := match a, c with
  | [V.d (D.sl false 3 a), V.d (D.int IntKind.i64 left)], [] => ⟨Int, o a left, fun r => ([[D.int IntKind.i64 r]], [])⟩
  | a, c => q a c
theorem P.laws_szTokenS_ok {o : List Row → Int → Option (Int)} {q : List V → List Cell → Res (List Row × List Cell)} (h : H.laws_szTokenS o) (hq : FnOk X0 14 q) : FnOk X0 14 (P.laws_szTokenS o q) := by
  intro a c r hr
  unfold P.laws_szTokenS at hr
  split at hr
  · obtain ⟨x, hx, rfl⟩ := Res.val_some hr
    exact h _ _ x hx
  · exact hq _ _ _ hr
noncomputable def M.laws_szTokenS_l5_C {R : Type} (a : List Row) (s : Int × Int) (kn : Int × Int → Option R) (ke : (Unit) ⊕ (Int × Int × Bool) → Option R) : Option R := match s with
  | (left, i) =>
    bif decide (i < (↑a.length : Int)) then
     ((idx a i).bind fun row180 =>
      ((cInt IntKind.i64 row180 0).bind fun n181 =>
       ((cStr row180 1).bind fun s182 =>
        ((cInt IntKind.i64 row180 2).bind fun n183 =>
         ((M.laws_szToken n181 s182 n183 left).bind fun r184 => (bif decide (r184 < 0) then (ke (.inl ())) else (kn ((r184, IntKind.i64.wrap (i + 1)))))))))) else (ke (.inr ((left, i, decide (i < (↑a.length : Int))))))
noncomputable def M.laws_szTokenS_l5_b (a : List Row) (s : Int × Int) : Option ((Int × Int) ⊕ ((Unit) ⊕ (Int × Int × Bool))) := M.laws_szTokenS_l5_C a s (fun s => some (.inl s)) (fun t => some (.inr t))
noncomputable def M.laws_szTokenS_l5 (a : List Row) (s : Int × Int) : Option ((Unit) ⊕ (Int × Int × Bool)) := loopM (M.laws_szTokenS_l5_b a) s
theorem M.laws_szTokenS_l5_n {R : Type} (a : List Row) (s : Int × Int) (kn : Int × Int → Option R) (ke : (Unit) ⊕ (Int × Int × Bool) → Option R) : M.laws_szTokenS_l5_C a s kn ke = (M.laws_szTokenS_l5_b a s).bind fun r => match r with | .inl s => kn s | .inr t => ke t := by
  obtain ⟨left, i⟩ := s
  all_goals
    simp only [M.laws_szTokenS_l5_b, M.laws_szTokenS_l5_C, bif_bind, bind_bind, some_bind, none_bind, sumE_bind, optE_bind, letE_bind]
def A.laws_szTokenS_l5 (a : List Row) : Alt (Ex × St) := .sum (.leaf (Unit) (fun t => (Ex.ret, { tm := [(4, V.d (D.int IntKind.i64 (-1)))], mem := [] }))) (.leaf (Int × Int × Bool) (fun t => (Ex.exit 0, { tm := [(0, V.d (D.sl false 3 a)), (1, V.d (D.int IntKind.i64 t.fst)), (5, V.d (D.int IntKind.i64 t.snd.fst)), (15, V.d (D.bool t.snd.snd))], mem := [] })))
def T.laws_szTokenS_l5 (a : List Row) (s : Int × Int) : St := match s with
  | (left, i) => { tm := [(0, V.d (D.sl false 3 a)), (1, V.d (D.int IntKind.i64 left)), (5, V.d (D.int IntKind.i64 i))], mem := [] }
noncomputable def K.laws_szTokenS_l5 : KonC := (kcons 38 (P.laws_szToken M.laws_szToken pnil) knil)
noncomputable def L.laws_szTokenS_l5 : LoopC := lnil
theorem E.laws_szTokenS_l5 {R : Type} (a : List Row) (s : Int × Int) (k : Ex → St → Option R) : denC X0 (K.laws_szTokenS_l5) (L.laws_szTokenS_l5) 14 (loopCode X0.P 14 5) (T.laws_szTokenS_l5 a s) k = M.laws_szTokenS_l5_C a s (fun s => k .normal (T.laws_szTokenS_l5 a s)) (fun t => (A.laws_szTokenS_l5 a).go t fun r => k r.1 r.2) := by
  obtain ⟨left, i⟩ := s
  all_goals kernel_rfl
theorem LC.laws_szTokenS_l5 : loops (loopCode X0.P 14 5) = [] := by kernel_rfl
noncomputable def PL.laws_szTokenS_l5 (S : St) : ResA (Ex × St) := match S with
  | { tm := [(0, V.d (D.sl false 3 a)), (1, V.d (D.int IntKind.i64 left)), (5, V.d (D.int IntKind.i64 i))], mem := [] } => ⟨A.laws_szTokenS_l5 a, M.laws_szTokenS_l5 a ((left, i))⟩
  | _ => .none
theorem C.laws_szTokenS_l5 : LpOk X0 14 5 (loopCode X0.P 14 5) (PL.laws_szTokenS_l5) := by
  refine ⟨by kernel_rfl, fun S r hr => ?_⟩
  unfold PL.laws_szTokenS_l5 at hr
  split at hr
  · obtain ⟨x, hx, rfl⟩ := ResA.val_some hr
    exact lp_sound (K := K.laws_szTokenS_l5) (L := L.laws_szTokenS_l5) (b := M.laws_szTokenS_l5_b _) (tm := T.laws_szTokenS_l5 _) (tx := (A.laws_szTokenS_l5 _).enc) (kcons_ok (P.laws_szToken_ok C.laws_szToken pnil_ok) knil_ok) (by rw [LC.laws_szTokenS_l5]; exact LOk.nil) (fun s => by rw [E.laws_szTokenS_l5, M.laws_szTokenS_l5_n]; congr 1; funext r; cases r <;> first | rfl | exact Alt.go_eq _ _ _) (by intro t; rcases t with t | t <;> first | (intro h; cases h) | (intro h; cases h)) hx (s := (_, _))
  · cases hr
noncomputable def M.laws_szTokenS_C {R : Type} (a : List Row) (left : Int) (k : Int → Option R) : Option R :=
  bif decide (IntKind.i64.wrap (left - (↑a.length : Int)) < 0) then (k (-1)) else
   ((M.laws_szTokenS_l5 a ((IntKind.i64.wrap (left - (↑a.length : Int)), 0))).bind fun u187 =>
   sumE u187 (fun t185 => (k (-1))) fun u188 =>
    letE u188 fun t186 => (k t186.fst))
noncomputable def M.laws_szTokenS (a : List Row) (left : Int) : Option (Int) := M.laws_szTokenS_C a left some
theorem M.laws_szTokenS_n {R : Type} (a : List Row) (left : Int) (k : Int → Option R) : M.laws_szTokenS_C a left k = (M.laws_szTokenS_C a left some).bind k := by
  simp only [M.laws_szTokenS_C, bif_bind, bind_bind, some_bind, none_bind, sumE_bind, optE_bind, letE_bind]
noncomputable def K.laws_szTokenS : KonC := knil
noncomputable def L.laws_szTokenS : LoopC := (lcons 5 (PL.laws_szTokenS_l5) lnil)
theorem E.laws_szTokenS {R : Type} (a : List Row) (left : Int) (k : List Row → List Cell → Option R) : bodyC X0 (K.laws_szTokenS) (L.laws_szTokenS) 14 [V.d (D.sl false 3 a), V.d (D.int IntKind.i64 left)] [] k = M.laws_szTokenS_C a left (fun r => k [[D.int IntKind.i64 r]] []) := by kernel_rfl
theorem LC.laws_szTokenS : loops (codeOf X0.P 14) = [loopCode X0.P 14 5] := by kernel_rfl
theorem C.laws_szTokenS : H.laws_szTokenS (M.laws_szTokenS) := by
  intro a left r h
  exact fn_sound (enc := fun r => ([[D.int IntKind.i64 r]], [])) (K := K.laws_szTokenS) (L := L.laws_szTokenS) (by kernel_rfl) knil_ok (by rw [LC.laws_szTokenS]; exact (LOk.cons (LpOk.at (C.laws_szTokenS_l5) (fun _ => rfl)) LOk.nil)) (by rw [E.laws_szTokenS, M.laws_szTokenS_n] <;> rfl) h

/-! laws_toToken -/
def H.laws_toToken (o : Int → List UInt8 → Int → Option (Int × List UInt8 × Int)) : Prop := ∀ (a : Int) (a1 : List UInt8) (a2 : Int) (r : Int × List UInt8 × Int), o a a1 a2 = some r → call X0 39 [V.agg [V.d (D.int IntKind.i64 a), V.d (D.str a1), V.d (D.int IntKind.i64 a2)]] [] = some ([[D.int IntKind.i64 r.fst, D.str r.snd.fst, D.int IntKind.i64 r.snd.snd]], [])
def P.laws_toToken (o : Int → List UInt8 → Int → Option (Int × List UInt8 × Int)) (q : List V → List Cell → Res (List Row × List Cell)) (a : List V) (c : List Cell) : Res (List Row × List Cell) := match a, c with
  | [V.agg [V.d (D.int IntKind.i64 a), V.d (D.str a1), V.d (D.int IntKind.i64 a2)]], [] => ⟨Int × List UInt8 × Int, o a a1 a2, fun r => ([[D.int IntKind.i64 r.fst, D.str r.snd.fst, D.int IntKind.i64 r.snd.snd]], [])⟩
  | a, c => q a c
theorem P.laws_toToken_ok {o : Int → List UInt8 → Int → Option (Int × List UInt8 × Int)} {q : List V → List Cell → Res (List Row × List Cell)} (h : H.laws_toToken o) (hq : FnOk X0 39 q) : FnOk X0 39 (P.laws_toToken o q) := by
  intro a c r hr
  unfold P.laws_toToken at hr
  split at hr
  · obtain ⟨x, hx, rfl⟩ := Res.val_some hr
    exact h _ _ _ x hx
  · exact hq _ _ _ hr
noncomputable def M.laws_toToken_C {R : Type} (a : Int) (a1 : List UInt8) (a2 : Int) (k : Int × List UInt8 × Int → Option R) : Option R :=
  k ((a, a1, a2))
noncomputable def M.laws_toToken (a : Int) (a1 : List UInt8) (a2 : Int) : Option (Int × List UInt8 × Int) := M.laws_toToken_C a a1 a2 some
theorem M.laws_toToken_n {R : Type} (a : Int) (a1 : List UInt8) (a2 : Int) (k : Int × List UInt8 × Int → Option R) : M.laws_toToken_C a a1 a2 k = (M.laws_toToken_C a a1 a2 some).bind k := by
  simp only [M.laws_toToken_C, bif_bind, bind_bind, some_bind, none_bind, sumE_bind, optE_bind, letE_bind]
noncomputable def K.laws_toToken : KonC := knil
noncomputable def L.laws_toToken : LoopC := lnil
theorem E.laws_toToken {R : Type} (a : Int) (a1 : List UInt8) (a2 : Int) (k : List Row → List Cell → Option R) : bodyC X0 (K.laws_toToken) (L.laws_toToken) 39 [V.agg [V.d (D.int IntKind.i64 a), V.d (D.str a1), V.d (D.int IntKind.i64 a2)]] [] k = M.laws_toToken_C a a1 a2 (fun r => k [[D.int IntKind.i64 r.fst, D.str r.snd.fst, D.int IntKind.i64 r.snd.snd]] []) := by kernel_rfl
theorem LC.laws_toToken : loops (codeOf X0.P 39) = [] := by kernel_rfl
theorem C.laws_toToken : H.laws_toToken (M.laws_toToken) := by
  intro a a1 a2 r h
  exact fn_sound (enc := fun r => ([[D.int IntKind.i64 r.fst, D.str r.snd.fst, D.int IntKind.i64 r.snd.snd]], [])) (K := K.laws_toToken) (L := L.laws_toToken) (by kernel_rfl) knil_ok (by rw [LC.laws_toToken]; exact LOk.nil) (by rw [E.laws_toToken, M.laws_toToken_n] <;> rfl) h

/-! laws_toTokenS -/
def H.laws_toTokenS (o : List Row → Option (List Row)) : Prop := ∀ (a : List Row) (r : List Row), o a = some r → call X0 16 [V.d (D.sl false 3 a)] [] = some ([[D.sl true 3 r]], [])
def P.laws_toTokenS (o : List Row → Option (List Row)) (q : List V → List Cell → Res (List Row × List Cell)) (a : List V) (c : List Cell) : Res (List Row × List Cell) := match a, c with
  | [V.d (D.sl false 3 a)], [] => ⟨List Row, o a, fun r => ([[D.sl true 3 r]], [])⟩
  | a, c => q a c
theorem P.laws_toTokenS_ok {o : List Row → Option (List Row)} {q : List V → List Cell → Res (List Row × List Cell)} (h : H.laws_toTokenS o) (hq : FnOk X0 16 q) : FnOk X0 16 (P.laws_toTokenS o q) := by
  intro a c r hr
  unfold P.laws_toTokenS at hr
  split at hr
  · obtain ⟨x, hx, rfl⟩ := Res.val_some hr
    exact h _ x hx
  · exact hq _ _ _ hr
noncomputable def M.laws_toTokenS_l3_C {R : Type} (a : List Row) (s : Int × List Row) (kn : Int × List Row → Option R) (ke : Int × Bool × List Row → Option R) : Option R := match s with
  | (i, x') =>
    bif decide (i < (↑a.length : Int)) then
     ((idx a i).bind fun row190 =>
      ((cInt IntKind.i64 row190 0).bind fun n191 =>
       ((cStr row190 1).bind fun s192 =>
        ((cInt IntKind.i64 row190 2).bind fun n193 =>
         ((M.laws_toToken n191 s192 n193).bind fun r194 =>
          ((idx x' i).bind fun row195 =>
           (x'[i.toNat]?.bind fun row196 =>
            (kn ((IntKind.i64.wrap (i + 1), x'.set i.toNat (splice row196 0 [D.int IntKind.i64 r194.fst, D.str r194.snd.fst, D.int IntKind.i64 r194.snd.snd]))))))))))) else (ke ((i, decide (i < (↑a.length : Int)), x')))
noncomputable def M.laws_toTokenS_l3_b (a : List Row) (s : Int × List Row) : Option ((Int × List Row) ⊕ (Int × Bool × List Row)) := M.laws_toTokenS_l3_C a s (fun s => some (.inl s)) (fun t => some (.inr t))
noncomputable def M.laws_toTokenS_l3 (a : List Row) (s : Int × List Row) : Option (Int × Bool × List Row) := loopM (M.laws_toTokenS_l3_b a) s
theorem M.laws_toTokenS_l3_n {R : Type} (a : List Row) (s : Int × List Row) (kn : Int × List Row → Option R) (ke : Int × Bool × List Row → Option R) : M.laws_toTokenS_l3_C a s kn ke = (M.laws_toTokenS_l3_b a s).bind fun r => match r with | .inl s => kn s | .inr t => ke t := by
  obtain ⟨i, x'⟩ := s
  all_goals
    simp only [M.laws_toTokenS_l3_b, M.laws_toTokenS_l3_C, bif_bind, bind_bind, some_bind, none_bind, sumE_bind, optE_bind, letE_bind]
def A.laws_toTokenS_l3 (a : List Row) : Alt (Ex × St) := .leaf (Int × Bool × List Row) (fun t => (Ex.exit 0, { tm := [(0, V.d (D.sl false 3 a)), (3, V.own 300000 0), (4, V.d (D.int IntKind.i64 t.fst)), (11, V.d (D.bool t.snd.fst))], mem := [(300000, Cell.arr false true 0 3 t.snd.snd)] }))
def T.laws_toTokenS_l3 (a : List Row) (s : Int × List Row) : St := match s with
  | (i, x') => { tm := [(0, V.d (D.sl false 3 a)), (3, V.own 300000 0), (4, V.d (D.int IntKind.i64 i))], mem := [(300000, Cell.arr false true 0 3 x')] }
noncomputable def K.laws_toTokenS_l3 : KonC := (kcons 39 (P.laws_toToken M.laws_toToken pnil) knil)
noncomputable def L.laws_toTokenS_l3 : LoopC := lnil
theorem E.laws_toTokenS_l3 {R : Type} (a : List Row) (s : Int × List Row) (k : Ex → St → Option R) : denC X0 (K.laws_toTokenS_l3) (L.laws_toTokenS_l3) 16 (loopCode X0.P 16 3) (T.laws_toTokenS_l3 a s) k = M.laws_toTokenS_l3_C a s (fun s => k .normal (T.laws_toTokenS_l3 a s)) (fun t => (A.laws_toTokenS_l3 a).go t fun r => k r.1 r.2) := by
  obtain ⟨i, x'⟩ := s
  all_goals kernel_rfl
theorem LC.laws_toTokenS_l3 : loops (loopCode X0.P 16 3) = [] := by kernel_rfl
noncomputable def PL.laws_toTokenS_l3 (S : St) : ResA (Ex × St) := match S with
  | { tm := [(0, V.d (D.sl false 3 a)), (3, V.own 300000 0), (4, V.d (D.int IntKind.i64 i))], mem := [(300000, Cell.arr false true 0 3 x')] } => ⟨A.laws_toTokenS_l3 a, M.laws_toTokenS_l3 a ((i, x'))⟩
  | _ => .none
theorem C.laws_toTokenS_l3 : LpOk X0 16 3 (loopCode X0.P 16 3) (PL.laws_toTokenS_l3) := by
  refine ⟨by kernel_rfl, fun S r hr => ?_⟩
  unfold PL.laws_toTokenS_l3 at hr
  split at hr
  · obtain ⟨x, hx, rfl⟩ := ResA.val_some hr
    exact lp_sound (K := K.laws_toTokenS_l3) (L := L.laws_toTokenS_l3) (b := M.laws_toTokenS_l3_b _) (tm := T.laws_toTokenS_l3 _) (tx := (A.laws_toTokenS_l3 _).enc) (kcons_ok (P.laws_toToken_ok C.laws_toToken pnil_ok) knil_ok) (by rw [LC.laws_toTokenS_l3]; exact LOk.nil) (fun s => by rw [E.laws_toTokenS_l3, M.laws_toTokenS_l3_n]; congr 1; funext r; cases r <;> first | rfl | exact Alt.go_eq _ _ _) (by intro t; intro h; cases h) hx (s := (_, _))
  · cases hr
noncomputable def M.laws_toTokenS_C {R : Type} (a : List Row) (k : List Row → Option R) : Option R :=
  bif decide (0 ≤ (↑a.length : Int)) && decide ((↑a.length : Int) ≤ (↑a.length : Int)) && decide ((↑a.length : Int) * 32 ≤ 140737488355328) && decide ((↑a.length : Int) ≤ 140737488355328) then
   ((M.laws_toTokenS_l3 a ((0, List.replicate (↑a.length : Int).toNat [D.int IntKind.i64 0, D.str [], D.int IntKind.i64 0]))).bind fun t197 => (bif flatRows t197.snd.snd then (k t197.snd.snd) else none)) else none
noncomputable def M.laws_toTokenS (a : List Row) : Option (List Row) := M.laws_toTokenS_C a some
theorem M.laws_toTokenS_n {R : Type} (a : List Row) (k : List Row → Option R) : M.laws_toTokenS_C a k = (M.laws_toTokenS_C a some).bind k := by
  simp only [M.laws_toTokenS_C, bif_bind, bind_bind, some_bind, none_bind, sumE_bind, optE_bind, letE_bind]
noncomputable def K.laws_toTokenS : KonC := knil
noncomputable def L.laws_toTokenS : LoopC := (lcons 3 (PL.laws_toTokenS_l3) lnil)
theorem E.laws_toTokenS {R : Type} (a : List Row) (k : List Row → List Cell → Option R) : bodyC X0 (K.laws_toTokenS) (L.laws_toTokenS) 16 [V.d (D.sl false 3 a)] [] k = M.laws_toTokenS_C a (fun r => k [[D.sl true 3 r]] []) := by kernel_rfl
theorem LC.laws_toTokenS : loops (codeOf X0.P 16) = [loopCode X0.P 16 3] := by kernel_rfl
theorem C.laws_toTokenS : H.laws_toTokenS (M.laws_toTokenS) := by
  intro a r h
  exact fn_sound (enc := fun r => ([[D.sl true 3 r]], [])) (K := K.laws_toTokenS) (L := L.laws_toTokenS) (by kernel_rfl) knil_ok (by rw [LC.laws_toTokenS]; exact (LOk.cons (LpOk.at (C.laws_toTokenS_l3) (fun _ => rfl)) LOk.nil)) (by rw [E.laws_toTokenS, M.laws_toTokenS_n] <;> rfl) h

/-! spec_KindsIn -/
def H.spec_KindsIn (o : List Row → Option (List Row)) : Prop := ∀ (l : List Row) (r : List Row), o l = some r → call X0 15 [V.d (D.sl false 3 l)] [] = some ([[D.sl true 1 r]], [])
def P.spec_KindsIn (o : List Row → Option (List Row)) (q : List V → List Cell → Res (List Row × List Cell)) (a : List V) (c : List Cell) : Res (List Row × List Cell) := match a, c with
  | [V.d (D.sl false 3 l)], [] => ⟨List Row, o l, fun r => ([[D.sl true 1 r]], [])⟩
  | a, c => q a c
theorem P.spec_KindsIn_ok {o : List Row → Option (List Row)} {q : List V → List Cell → Res (List Row × List Cell)} (h : H.spec_KindsIn o) (hq : FnOk X0 15 q) : FnOk X0 15 (P.spec_KindsIn o q) := by
  intro a c r hr
  unfold P.spec_KindsIn at hr
  split at hr
  · obtain ⟨x, hx, rfl⟩ := Res.val_some hr
    exact h _ x hx
  · exact hq _ _ _ hr
noncomputable def M.spec_KindsIn_l6_C {R : Type} (l : List Row) (k' : Int) (s : Int × List Row) (kn : Int × List Row → Option R) (ke : Int × Bool × List Row → Option R) : Option R := match s with
  | (i, x') =>
    bif decide (i < (↑l.length : Int)) then
     ((idx l i).bind fun row199 =>
      ((cInt IntKind.i64 row199 0).bind fun n200 =>
       (bif n200 == k' then
        (bif (↑x'.length : Int) == 0 then
         (bif ((x'.length + [[D.int IntKind.i64 k']].length) * 8).ble 140737488355328 then
          (bif (x'.length + [[D.int IntKind.i64 k']].length).ble 140737488355328 then (kn ((IntKind.i64.wrap (i + 1), x' ++ [[D.int IntKind.i64 k']]))) else none) else none) else
         ((idx x' (IntKind.i64.wrap ((↑x'.length : Int) - 1))).bind fun row201 =>
          ((x'[(IntKind.i64.wrap ((↑x'.length : Int) - 1)).toNat]?).bind fun row202 =>
           ((cInt IntKind.i64 row202 0).bind fun n203 =>
            (bif n203 != k' then
             (bif ((x'.length + [[D.int IntKind.i64 k']].length) * 8).ble 140737488355328 then
              (bif (x'.length + [[D.int IntKind.i64 k']].length).ble 140737488355328 then (kn ((IntKind.i64.wrap (i + 1), x' ++ [[D.int IntKind.i64 k']]))) else none) else none) else (kn ((IntKind.i64.wrap (i + 1), x')))))))) else (kn ((IntKind.i64.wrap (i + 1), x')))))) else (ke ((i, decide (i < (↑l.length : Int)), x')))
noncomputable def M.spec_KindsIn_l6_b (l : List Row) (k' : Int) (s : Int × List Row) : Option ((Int × List Row) ⊕ (Int × Bool × List Row)) := M.spec_KindsIn_l6_C l k' s (fun s => some (.inl s)) (fun t => some (.inr t))
noncomputable def M.spec_KindsIn_l6 (l : List Row) (k' : Int) (s : Int × List Row) : Option (Int × Bool × List Row) := loopM (M.spec_KindsIn_l6_b l k') s
theorem M.spec_KindsIn_l6_n {R : Type} (l : List Row) (k' : Int) (s : Int × List Row) (kn : Int × List Row → Option R) (ke : Int × Bool × List Row → Option R) : M.spec_KindsIn_l6_C l k' s kn ke = (M.spec_KindsIn_l6_b l k' s).bind fun r => match r with | .inl s => kn s | .inr t => ke t := by
  obtain ⟨i, x'⟩ := s
  all_goals
    simp only [M.spec_KindsIn_l6_b, M.spec_KindsIn_l6_C, bif_bind, bind_bind, some_bind, none_bind, sumE_bind, optE_bind, letE_bind]
def A.spec_KindsIn_l6 (l : List Row) (k' : Int) : Alt (Ex × St) := .leaf (Int × Bool × List Row) (fun t => (Ex.exit 2, { tm := [(0, V.d (D.sl false 3 l)), (3, V.own 300000 0), (4, V.d (D.int IntKind.i64 k')), (5, V.d (D.int IntKind.i64 t.fst)), (14, V.d (D.bool t.snd.fst))], mem := [(300000, Cell.arr false true 0 1 t.snd.snd)] }))
def T.spec_KindsIn_l6 (l : List Row) (k' : Int) (s : Int × List Row) : St := match s with
  | (i, x') => { tm := [(0, V.d (D.sl false 3 l)), (3, V.own 300000 0), (4, V.d (D.int IntKind.i64 k')), (5, V.d (D.int IntKind.i64 i))], mem := [(300000, Cell.arr false true 0 1 x')] }
noncomputable def K.spec_KindsIn_l6 : KonC := knil
noncomputable def L.spec_KindsIn_l6 : LoopC := lnil
theorem E.spec_KindsIn_l6 {R : Type} (l : List Row) (k' : Int) (s : Int × List Row) (k : Ex → St → Option R) : denC X0 (K.spec_KindsIn_l6) (L.spec_KindsIn_l6) 15 (loopCode X0.P 15 6) (T.spec_KindsIn_l6 l k' s) k = M.spec_KindsIn_l6_C l k' s (fun s => k .normal (T.spec_KindsIn_l6 l k' s)) (fun t => (A.spec_KindsIn_l6 l k').go t fun r => k r.1 r.2) := by
  obtain ⟨i, x'⟩ := s
  all_goals kernel_rfl
theorem LC.spec_KindsIn_l6 : loops (loopCode X0.P 15 6) = [] := by kernel_rfl
noncomputable def PL.spec_KindsIn_l6 (S : St) : ResA (Ex × St) := match S with
  | { tm := [(0, V.d (D.sl false 3 l)), (3, V.own 300000 0), (4, V.d (D.int IntKind.i64 k')), (5, V.d (D.int IntKind.i64 i))], mem := [(300000, Cell.arr false true 0 1 x')] } => ⟨A.spec_KindsIn_l6 l k', M.spec_KindsIn_l6 l k' ((i, x'))⟩
  | _ => .none
theorem C.spec_KindsIn_l6 : LpOk X0 15 6 (loopCode X0.P 15 6) (PL.spec_KindsIn_l6) := by
  refine ⟨by kernel_rfl, fun S r hr => ?_⟩
  unfold PL.spec_KindsIn_l6 at hr
  split at hr
  · obtain ⟨x, hx, rfl⟩ := ResA.val_some hr
    exact lp_sound (K := K.spec_KindsIn_l6) (L := L.spec_KindsIn_l6) (b := M.spec_KindsIn_l6_b _ _) (tm := T.spec_KindsIn_l6 _ _) (tx := (A.spec_KindsIn_l6 _ _).enc) knil_ok (by rw [LC.spec_KindsIn_l6]; exact LOk.nil) (fun s => by rw [E.spec_KindsIn_l6, M.spec_KindsIn_l6_n]; congr 1; funext r; cases r <;> first | rfl | exact Alt.go_eq _ _ _) (by intro t; intro h; cases h) hx (s := (_, _))
  · cases hr
noncomputable def M.spec_KindsIn_l3_C {R : Type} (l : List Row) (s : Int × List Row) (kn : Int × List Row → Option R) (ke : Int × Bool × List Row → Option R) : Option R := match s with
  | (k', x') =>
    bif decide (k' ≤ 68) then
     ((M.spec_KindsIn_l6 l k' ((0, x'))).bind fun t204 => (kn ((IntKind.i64.wrap (k' + 1), t204.snd.snd)))) else (ke ((k', decide (k' ≤ 68), x')))
noncomputable def M.spec_KindsIn_l3_b (l : List Row) (s : Int × List Row) : Option ((Int × List Row) ⊕ (Int × Bool × List Row)) := M.spec_KindsIn_l3_C l s (fun s => some (.inl s)) (fun t => some (.inr t))
noncomputable def M.spec_KindsIn_l3 (l : List Row) (s : Int × List Row) : Option (Int × Bool × List Row) := loopM (M.spec_KindsIn_l3_b l) s
theorem M.spec_KindsIn_l3_n {R : Type} (l : List Row) (s : Int × List Row) (kn : Int × List Row → Option R) (ke : Int × Bool × List Row → Option R) : M.spec_KindsIn_l3_C l s kn ke = (M.spec_KindsIn_l3_b l s).bind fun r => match r with | .inl s => kn s | .inr t => ke t := by
  obtain ⟨k', x'⟩ := s
  all_goals
    simp only [M.spec_KindsIn_l3_b, M.spec_KindsIn_l3_C, bif_bind, bind_bind, some_bind, none_bind, sumE_bind, optE_bind, letE_bind]
def A.spec_KindsIn_l3 (l : List Row) : Alt (Ex × St) := .leaf (Int × Bool × List Row) (fun t => (Ex.exit 0, { tm := [(0, V.d (D.sl false 3 l)), (3, V.own 300000 0), (4, V.d (D.int IntKind.i64 t.fst)), (8, V.d (D.bool t.snd.fst))], mem := [(300000, Cell.arr false true 0 1 t.snd.snd)] }))
def T.spec_KindsIn_l3 (l : List Row) (s : Int × List Row) : St := match s with
  | (k', x') => { tm := [(0, V.d (D.sl false 3 l)), (3, V.own 300000 0), (4, V.d (D.int IntKind.i64 k'))], mem := [(300000, Cell.arr false true 0 1 x')] }
noncomputable def K.spec_KindsIn_l3 : KonC := knil
noncomputable def L.spec_KindsIn_l3 : LoopC := (lcons 6 (PL.spec_KindsIn_l6) lnil)
theorem E.spec_KindsIn_l3 {R : Type} (l : List Row) (s : Int × List Row) (k : Ex → St → Option R) : denC X0 (K.spec_KindsIn_l3) (L.spec_KindsIn_l3) 15 (loopCode X0.P 15 3) (T.spec_KindsIn_l3 l s) k = M.spec_KindsIn_l3_C l s (fun s => k .normal (T.spec_KindsIn_l3 l s)) (fun t => (A.spec_KindsIn_l3 l).go t fun r => k r.1 r.2) := by
  obtain ⟨k', x'⟩ := s
  all_goals kernel_rfl
theorem LC.spec_KindsIn_l3 : loops (loopCode X0.P 15 3) = [loopCode X0.P 15 6] := by kernel_rfl
noncomputable def PL.spec_KindsIn_l3 (S : St) : ResA (Ex × St) := match S with
  | { tm := [(0, V.d (D.sl false 3 l)), (3, V.own 300000 0), (4, V.d (D.int IntKind.i64 k'))], mem := [(300000, Cell.arr false true 0 1 x')] } => ⟨A.spec_KindsIn_l3 l, M.spec_KindsIn_l3 l ((k', x'))⟩
  | _ => .none
theorem C.spec_KindsIn_l3 : LpOk X0 15 3 (loopCode X0.P 15 3) (PL.spec_KindsIn_l3) := by
  refine ⟨by kernel_rfl, fun S r hr => ?_⟩
  unfold PL.spec_KindsIn_l3 at hr
  split at hr
  · obtain ⟨x, hx, rfl⟩ := ResA.val_some hr
    exact lp_sound (K := K.spec_KindsIn_l3) (L := L.spec_KindsIn_l3) (b := M.spec_KindsIn_l3_b _) (tm := T.spec_KindsIn_l3 _) (tx := (A.spec_KindsIn_l3 _).enc) knil_ok (by rw [LC.spec_KindsIn_l3]; exact (LOk.cons (LpOk.at (C.spec_KindsIn_l6) (fun _ => rfl)) LOk.nil)) (fun s => by rw [E.spec_KindsIn_l3, M.spec_KindsIn_l3_n]; congr 1; funext r; cases r <;> first | rfl | exact Alt.go_eq _ _ _) (by intro t; intro h; cases h) hx (s := (_, _))
  · cases hr
noncomputable def M.spec_KindsIn_C {R : Type} (l : List Row) (k : List Row → Option R) : Option R :=
  (M.spec_KindsIn_l3 l ((0, []))).bind fun t205 => (bif flatRows t205.snd.snd then (k t205.snd.snd) else none)
noncomputable def M.spec_KindsIn (l : List Row) : Option (List Row) := M.spec_KindsIn_C l some
theorem M.spec_KindsIn_n {R : Type} (l : List Row) (k : List Row → Option R) : M.spec_KindsIn_C l k = (M.spec_KindsIn_C l some).bind k := by
  simp only [M.spec_KindsIn_C, bif_bind, bind_bind, some_bind, none_bind, sumE_bind, optE_bind, letE_bind]
noncomputable def K.spec_KindsIn : KonC := knil
noncomputable def L.spec_KindsIn : LoopC := (lcons 3 (PL.spec_KindsIn_l3) lnil)
theorem E.spec_KindsIn {R : Type} (l : List Row) (k : List Row → List Cell → Option R) : bodyC X0 (K.spec_KindsIn) (L.spec_KindsIn) 15 [V.d (D.sl false 3 l)] [] k = M.spec_KindsIn_C l (fun r => k [[D.sl true 1 r]] []) := by kernel_rfl
theorem LC.spec_KindsIn : loops (codeOf X0.P 15) = [loopCode X0.P 15 3] := by kernel_rfl
theorem C.spec_KindsIn : H.spec_KindsIn (M.spec_KindsIn) := by
  intro l r h
  exact fn_sound (enc := fun r => ([[D.sl true 1 r]], [])) (K := K.spec_KindsIn) (L := L.spec_KindsIn) (by kernel_rfl) knil_ok (by rw [LC.spec_KindsIn]; exact (LOk.cons (LpOk.at (C.spec_KindsIn_l3) (fun _ => rfl)) LOk.nil)) (by rw [E.spec_KindsIn, M.spec_KindsIn_n] <;> rfl) h

/-! impl_KindsIn_c1 -/
def H.impl_KindsIn_c1 (o : Int → List UInt8 → Int → Int → Option (Bool × Int)) : Prop := ∀ (t' : Int) (t'1 : List UInt8) (t'2 : Int) (c : Int) (r : Bool × Int), o t' t'1 t'2 c = some r → call X0 41 [V.agg [V.d (D.int IntKind.i64 t'), V.d (D.str t'1), V.d (D.int IntKind.i64 t'2)], V.ptr 100000 0] [Cell.box 3 [V.d (D.int IntKind.i64 c)]] = some ([[D.bool r.fst]], [Cell.box 3 [V.d (D.int IntKind.i64 r.snd)]])
def P.impl_KindsIn_c1 (o : Int → List UInt8 → Int → Int → Option (Bool × Int)) (q : List V → List Cell → Res (List Row × List Cell)) (a : List V) (c : List Cell) : Res (List Row × List Cell) := match a, c with
  | [V.agg [V.d (D.int IntKind.i64 t'), V.d (D.str t'1), V.d (D.int IntKind.i64 t'2)], V.ptr 100000 0], [Cell.box 3 [V.d (D.int IntKind.i64 c)]] => ⟨Bool × Int, o t' t'1 t'2 c, fun r => ([[D.bool r.fst]], [Cell.box 3 [V.d (D.int IntKind.i64 r.snd)]])⟩
  | a, c => q a c
theorem P.impl_KindsIn_c1_ok {o : Int → List UInt8 → Int → Int → Option (Bool × Int)} {q : List V → List Cell → Res (List Row × List Cell)} (h : H.impl_KindsIn_c1 o) (hq : FnOk X0 41 q) : FnOk X0 41 (P.impl_KindsIn_c1 o q) := by
  intro a c r hr
  unfold P.impl_KindsIn_c1 at hr
  split at hr
  · obtain ⟨x, hx, rfl⟩ := Res.val_some hr
    exact h _ _ _ _ x hx
  · exact hq _ _ _ hr
noncomputable def M.impl_KindsIn_c1_C {R : Type} (t' : Int) (t'1 : List UInt8) (t'2 : Int) (c : Int) (k : Bool × Int → Option R) : Option R :=
  k ((t' == c, c))
noncomputable def M.impl_KindsIn_c1 (t' : Int) (t'1 : List UInt8) (t'2 : Int) (c : Int) : Option (Bool × Int) := M.impl_KindsIn_c1_C t' t'1 t'2 c some
theorem M.impl_KindsIn_c1_n {R : Type} (t' : Int) (t'1 : List UInt8) (t'2 : Int) (c : Int) (k : Bool × Int → Option R) : M.impl_KindsIn_c1_C t' t'1 t'2 c k = (M.impl_KindsIn_c1_C t' t'1 t'2 c some).bind k := by
  simp only [M.impl_KindsIn_c1_C, bif_bind, bind_bind, some_bind, none_bind, sumE_bind, optE_bind, letE_bind]
noncomputable def K.impl_KindsIn_c1 : KonC := knil
noncomputable def L.impl_KindsIn_c1 : LoopC := lnil
theorem E.impl_KindsIn_c1 {R : Type} (t' : Int) (t'1 : List UInt8) (t'2 : Int) (c : Int) (k : List Row → List Cell → Option R) : bodyC X0 (K.impl_KindsIn_c1) (L.impl_KindsIn_c1) 41 [V.agg [V.d (D.int IntKind.i64 t'), V.d (D.str t'1), V.d (D.int IntKind.i64 t'2)], V.ptr 100000 0] [Cell.box 3 [V.d (D.int IntKind.i64 c)]] k = M.impl_KindsIn_c1_C t' t'1 t'2 c (fun r => k [[D.bool r.fst]] [Cell.box 3 [V.d (D.int IntKind.i64 r.snd)]]) := by kernel_rfl
theorem LC.impl_KindsIn_c1 : loops (codeOf X0.P 41) = [] := by kernel_rfl
theorem C.impl_KindsIn_c1 : H.impl_KindsIn_c1 (M.impl_KindsIn_c1) := by
  intro t' t'1 t'2 c r h
  exact fn_sound (enc := fun r => ([[D.bool r.fst]], [Cell.box 3 [V.d (D.int IntKind.i64 r.snd)]])) (K := K.impl_KindsIn_c1) (L := L.impl_KindsIn_c1) (by kernel_rfl) knil_ok (by rw [LC.impl_KindsIn_c1]; exact LOk.nil) (by rw [E.impl_KindsIn_c1, M.impl_KindsIn_c1_n] <;> rfl) h

/-! slices_IndexFunc -/
def H.slices_IndexFunc (o : List Row → Int → Option (Int × Int)) : Prop := ∀ (s' : List Row) (c : Int) (r : Int × Int), o s' c = some r → call X0 52 [V.d (D.sl false 3 s'), V.clo 41 [] [V.ptr 100000 0]] [Cell.box 3 [V.d (D.int IntKind.i64 c)]] = some ([[D.int IntKind.i64 r.fst]], [Cell.box 3 [V.d (D.int IntKind.i64 r.snd)]])
def P.slices_IndexFunc (o : List Row → Int → Option (Int × Int)) (q : List V → List Cell → Res (List Row × List Cell)) (a : List V) (c : List Cell) : Res (List Row × List Cell) := match a, c with
  | [V.d (D.sl false 3 s'), V.clo 41 [] [V.ptr 100000 0]], [Cell.box 3 [V.d (D.int IntKind.i64 c)]] => ⟨Int × Int, o s' c, fun r => ([[D.int IntKind.i64 r.fst]], [Cell.box 3 [V.d (D.int IntKind.i64 r.snd)]])⟩
  | a, c => q a c
theorem P.slices_IndexFunc_ok {o : List Row → Int → Option (Int × Int)} {q : List V → List Cell → Res (List Row × List Cell)} (h : H.slices_IndexFunc o) (hq : FnOk X0 52 q) : FnOk X0 52 (P.slices_IndexFunc o q) := by
  intro a c r hr
  unfold P.slices_IndexFunc at hr
  split at hr
  · obtain ⟨x, hx, rfl⟩ := Res.val_some hr
    exact h _ _ x hx
  · exact hq _ _ _ hr
noncomputable def M.slices_IndexFunc_l2_C {R : Type} (s' : List Row) (v7 : Int) (s : Int × Int) (kn : Int × Int → Option R) (ke : (Int × Int) ⊕ (Int × Bool × Int) → Option R) : Option R := match s with
  | (v8, v) =>
    bif decide (v8 < v7) then
     ((idx s' v8).bind fun row208 =>
      ((cInt IntKind.i64 row208 0).bind fun n209 =>
       ((cStr row208 1).bind fun s210 =>
        ((cInt IntKind.i64 row208 2).bind fun n211 =>
         ((M.impl_KindsIn_c1 n209 s210 n211 v).bind fun r212 =>
          (bif r212.fst then (ke (.inl ((v8, r212.snd)))) else (kn ((IntKind.i64.wrap (v8 + 1), r212.snd))))))))) else (ke (.inr ((v8, decide (v8 < v7), v))))
noncomputable def M.slices_IndexFunc_l2_b (s' : List Row) (v7 : Int) (s : Int × Int) : Option ((Int × Int) ⊕ ((Int × Int) ⊕ (Int × Bool × Int))) := M.slices_IndexFunc_l2_C s' v7 s (fun s => some (.inl s)) (fun t => some (.inr t))
noncomputable def M.slices_IndexFunc_l2 (s' : List Row) (v7 : Int) (s : Int × Int) : Option ((Int × Int) ⊕ (Int × Bool × Int)) := loopM (M.slices_IndexFunc_l2_b s' v7) s
theorem M.slices_IndexFunc_l2_n {R : Type} (s' : List Row) (v7 : Int) (s : Int × Int) (kn : Int × Int → Option R) (ke : (Int × Int) ⊕ (Int × Bool × Int) → Option R) : M.slices_IndexFunc_l2_C s' v7 s kn ke = (M.slices_IndexFunc_l2_b s' v7 s).bind fun r => match r with | .inl s => kn s | .inr t => ke t := by
  obtain ⟨v8, v⟩ := s
  all_goals
    simp only [M.slices_IndexFunc_l2_b, M.slices_IndexFunc_l2_C, bif_bind, bind_bind, some_bind, none_bind, sumE_bind, optE_bind, letE_bind]
def A.slices_IndexFunc_l2 (s' : List Row) (v7 : Int) : Alt (Ex × St) := .sum (.leaf (Int × Int) (fun t => (Ex.ret, { tm := [(4, V.d (D.int IntKind.i64 t.fst))], mem := [(100000, Cell.box 3 [V.d (D.int IntKind.i64 t.snd)])] }))) (.leaf (Int × Bool × Int) (fun t => (Ex.exit 0, { tm := [(0, V.d (D.sl false 3 s')), (1, V.clo 41 [] [V.ptr 100000 0]), (7, V.d (D.int IntKind.i64 v7)), (8, V.d (D.int IntKind.i64 t.fst)), (9, V.d (D.bool t.snd.fst))], mem := [(100000, Cell.box 3 [V.d (D.int IntKind.i64 t.snd.snd)])] })))
def T.slices_IndexFunc_l2 (s' : List Row) (v7 : Int) (s : Int × Int) : St := match s with
  | (v8, v) => { tm := [(0, V.d (D.sl false 3 s')), (1, V.clo 41 [] [V.ptr 100000 0]), (7, V.d (D.int IntKind.i64 v7)), (8, V.d (D.int IntKind.i64 v8))], mem := [(100000, Cell.box 3 [V.d (D.int IntKind.i64 v)])] }
noncomputable def K.slices_IndexFunc_l2 : KonC := (kcons 41 (P.impl_KindsIn_c1 M.impl_KindsIn_c1 pnil) knil)
noncomputable def L.slices_IndexFunc_l2 : LoopC := lnil
theorem E.slices_IndexFunc_l2 {R : Type} (s' : List Row) (v7 : Int) (s : Int × Int) (k : Ex → St → Option R) : denC X0 (K.slices_IndexFunc_l2) (L.slices_IndexFunc_l2) 52 (loopCode X0.P 52 2) (T.slices_IndexFunc_l2 s' v7 s) k = M.slices_IndexFunc_l2_C s' v7 s (fun s => k .normal (T.slices_IndexFunc_l2 s' v7 s)) (fun t => (A.slices_IndexFunc_l2 s' v7).go t fun r => k r.1 r.2) := by
  obtain ⟨v8, v⟩ := s
  all_goals kernel_rfl
theorem LC.slices_IndexFunc_l2 : loops (loopCode X0.P 52 2) = [] := by kernel_rfl
noncomputable def PL.slices_IndexFunc_l2 (S : St) : ResA (Ex × St) := match S with
  | { tm := [(0, V.d (D.sl false 3 s')), (1, V.clo 41 [] [V.ptr 100000 0]), (7, V.d (D.int IntKind.i64 v7)), (8, V.d (D.int IntKind.i64 v8))], mem := [(100000, Cell.box 3 [V.d (D.int IntKind.i64 v)])] } => ⟨A.slices_IndexFunc_l2 s' v7, M.slices_IndexFunc_l2 s' v7 ((v8, v))⟩
  | _ => .none
theorem C.slices_IndexFunc_l2 : LpOk X0 52 2 (loopCode X0.P 52 2) (PL.slices_IndexFunc_l2) := by
  refine ⟨by kernel_rfl, fun S r hr => ?_⟩
  unfold PL.slices_IndexFunc_l2 at hr
  split at hr
  · obtain ⟨x, hx, rfl⟩ := ResA.val_some hr
    exact lp_sound (K := K.slices_IndexFunc_l2) (L := L.slices_IndexFunc_l2) (b := M.slices_IndexFunc_l2_b _ _) (tm := T.slices_IndexFunc_l2 _ _) (tx := (A.slices_IndexFunc_l2 _ _).enc) (kcons_ok (P.impl_KindsIn_c1_ok C.impl_KindsIn_c1 pnil_ok) knil_ok) (by rw [LC.slices_IndexFunc_l2]; exact LOk.nil) (fun s => by rw [E.slices_IndexFunc_l2, M.slices_IndexFunc_l2_n]; congr 1; funext r; cases r <;> first | rfl | exact Alt.go_eq _ _ _) (by intro t; rcases t with t | t <;> first | (intro h; cases h) | (intro h; cases h)) hx (s := (_, _))
  · cases hr
noncomputable def M.slices_IndexFunc_C {R : Type} (s' : List Row) (c : Int) (k : Int × Int → Option R) : Option R :=
  (M.slices_IndexFunc_l2 s' ((↑s'.length : Int)) ((0, c))).bind fun u215 =>
  sumE u215 (fun t213 => (k ((t213.fst, t213.snd)))) fun u216 =>
   letE u216 fun t214 => (k ((-1, t214.snd.snd)))
noncomputable def M.slices_IndexFunc (s' : List Row) (c : Int) : Option (Int × Int) := M.slices_IndexFunc_C s' c some
theorem M.slices_IndexFunc_n {R : Type} (s' : List Row) (c : Int) (k : Int × Int → Option R) : M.slices_IndexFunc_C s' c k = (M.slices_IndexFunc_C s' c some).bind k := by
  simp only [M.slices_IndexFunc_C, bif_bind, bind_bind, some_bind, none_bind, sumE_bind, optE_bind, letE_bind]
noncomputable def K.slices_IndexFunc : KonC := knil
noncomputable def L.slices_IndexFunc : LoopC := (lcons 2 (PL.slices_IndexFunc_l2) lnil)
theorem E.slices_IndexFunc {R : Type} (s' : List Row) (c : Int) (k : List Row → List Cell → Option R) : bodyC X0 (K.slices_IndexFunc) (L.slices_IndexFunc) 52 [V.d (D.sl false 3 s'), V.clo 41 [] [V.ptr 100000 0]] [Cell.box 3 [V.d (D.int IntKind.i64 c)]] k = M.slices_IndexFunc_C s' c (fun r => k [[D.int IntKind.i64 r.fst]] [Cell.box 3 [V.d (D.int IntKind.i64 r.snd)]]) := by kernel_rfl
theorem LC.slices_IndexFunc : loops (codeOf X0.P 52) = [loopCode X0.P 52 2] := by kernel_rfl
theorem C.slices_IndexFunc : H.slices_IndexFunc (M.slices_IndexFunc) := by
  intro s' c r h
  exact fn_sound (enc := fun r => ([[D.int IntKind.i64 r.fst]], [Cell.box 3 [V.d (D.int IntKind.i64 r.snd)]])) (K := K.slices_IndexFunc) (L := L.slices_IndexFunc) (by kernel_rfl) knil_ok (by rw [LC.slices_IndexFunc]; exact (LOk.cons (LpOk.at (C.slices_IndexFunc_l2) (fun _ => rfl)) LOk.nil)) (by rw [E.slices_IndexFunc, M.slices_IndexFunc_n] <;> rfl) h

/-! slices_ContainsFunc -/
def H.slices_ContainsFunc (o : List Row → Int → Option (Bool × Int)) : Prop := ∀ (s' : List Row) (c : Int) (r : Bool × Int), o s' c = some r → call X0 40 [V.d (D.sl false 3 s'), V.clo 41 [] [V.ptr 100000 0]] [Cell.box 3 [V.d (D.int IntKind.i64 c)]] = some ([[D.bool r.fst]], [Cell.box 3 [V.d (D.int IntKind.i64 r.snd)]])
def P.slices_ContainsFunc (o : List Row → Int → Option (Bool × Int)) (q : List V → List Cell → Res (List Row × List Cell)) (a : List V) (c : List Cell) : Res (List Row × List Cell) := match a, c with
  | [V.d (D.sl false 3 s'), V.clo 41 [] [V.ptr 100000 0]], [Cell.box 3 [V.d (D.int IntKind.i64 c)]] => ⟨Bool × Int, o s' c, fun r => ([[D.bool r.fst]], [Cell.box 3 [V.d (D.int IntKind.i64 r.snd)]])⟩
  | a, c => q a c
theorem P.slices_ContainsFunc_ok {o : List Row → Int → Option (Bool × Int)} {q : List V → List Cell → Res (List Row × List Cell)} (h : H.slices_ContainsFunc o) (hq : FnOk X0 40 q) : FnOk X0 40 (P.slices_ContainsFunc o q) := by
  intro a c r hr
  unfold P.slices_ContainsFunc at hr
  split at hr
  · obtain ⟨x, hx, rfl⟩ := Res.val_some hr
    exact h _ _ x hx
  · exact hq _ _ _ hr
noncomputable def M.slices_ContainsFunc_C {R : Type} (s' : List Row) (c : Int) (k : Bool × Int → Option R) : Option R :=
  (M.slices_IndexFunc s' c).bind fun r217 => (k ((decide (r217.fst ≥ 0), r217.snd)))
noncomputable def M.slices_ContainsFunc (s' : List Row) (c : Int) : Option (Bool × Int) := M.slices_ContainsFunc_C s' c some
theorem M.slices_ContainsFunc_n {R : Type} (s' : List Row) (c : Int) (k : Bool × Int → Option R) : M.slices_ContainsFunc_C s' c k = (M.slices_ContainsFunc_C s' c some).bind k := by
  simp only [M.slices_ContainsFunc_C, bif_bind, bind_bind, some_bind, none_bind, sumE_bind, optE_bind, letE_bind]
noncomputable def K.slices_ContainsFunc : KonC := (kcons 52 (P.slices_IndexFunc M.slices_IndexFunc pnil) knil)
noncomputable def L.slices_ContainsFunc : LoopC := lnil
theorem E.slices_ContainsFunc {R : Type} (s' : List Row) (c : Int) (k : List Row → List Cell → Option R) : bodyC X0 (K.slices_ContainsFunc) (L.slices_ContainsFunc) 40 [V.d (D.sl false 3 s'), V.clo 41 [] [V.ptr 100000 0]] [Cell.box 3 [V.d (D.int IntKind.i64 c)]] k = M.slices_ContainsFunc_C s' c (fun r => k [[D.bool r.fst]] [Cell.box 3 [V.d (D.int IntKind.i64 r.snd)]]) := by kernel_rfl
theorem LC.slices_ContainsFunc : loops (codeOf X0.P 40) = [] := by kernel_rfl
theorem C.slices_ContainsFunc : H.slices_ContainsFunc (M.slices_ContainsFunc) := by
  intro s' c r h
  exact fn_sound (enc := fun r => ([[D.bool r.fst]], [Cell.box 3 [V.d (D.int IntKind.i64 r.snd)]])) (K := K.slices_ContainsFunc) (L := L.slices_ContainsFunc) (by kernel_rfl) (kcons_ok (P.slices_IndexFunc_ok C.slices_IndexFunc pnil_ok) knil_ok) (by rw [LC.slices_ContainsFunc]; exact LOk.nil) (by rw [E.slices_ContainsFunc, M.slices_ContainsFunc_n] <;> rfl) h

/-! impl_KindsIn -/
def H.impl_KindsIn (o : List Row → Option (List Row)) : Prop := ∀ (l : List Row) (r : List Row), o l = some r → call X0 17 [V.d (D.sl false 3 l)] [] = some ([[D.sl true 1 r]], [])
def P.impl_KindsIn (o : List Row → Option (List Row)) (q : List V → List Cell → Res (List Row × List Cell)) (a : List V) (c : List Cell) : Res (List Row × List Cell) := match a, c with
  | [V.d (D.sl false 3 l)], [] => ⟨List Row, o l, fun r => ([[D.sl true 1 r]], [])⟩
  | a, c => q a c
theorem P.impl_KindsIn_ok {o : List Row → Option (List Row)} {q : List V → List Cell → Res (List Row × List Cell)} (h : H.impl_KindsIn o) (hq : FnOk X0 17 q) : FnOk X0 17 (P.impl_KindsIn o q) := by
  intro a c r hr
  unfold P.impl_KindsIn at hr
  split at hr
  · obtain ⟨x, hx, rfl⟩ := Res.val_some hr
    exact h _ x hx
  · exact hq _ _ _ hr
noncomputable def M.impl_KindsIn_l3_C {R : Type} (l : List Row) (s : Int × List Row) (kn : Int × List Row → Option R) (ke : Int × Bool × List Row → Option R) : Option R := match s with
  | (v6, x') =>
    bif decide (v6 < 69) then
     ((M.slices_ContainsFunc l v6).bind fun r218 =>
      (bif r218.fst then
       (bif ((x'.length + [[D.int IntKind.i64 r218.snd]].length) * 8).ble 140737488355328 then
        (bif (x'.length + [[D.int IntKind.i64 r218.snd]].length).ble 140737488355328 then (kn ((IntKind.i64.wrap (v6 + 1), x' ++ [[D.int IntKind.i64 r218.snd]]))) else none) else none) else (kn ((IntKind.i64.wrap (v6 + 1), x'))))) else (ke ((v6, decide (v6 < 69), x')))
noncomputable def M.impl_KindsIn_l3_b (l : List Row) (s : Int × List Row) : Option ((Int × List Row) ⊕ (Int × Bool × List Row)) := M.impl_KindsIn_l3_C l s (fun s => some (.inl s)) (fun t => some (.inr t))
noncomputable def M.impl_KindsIn_l3 (l : List Row) (s : Int × List Row) : Option (Int × Bool × List Row) := loopM (M.impl_KindsIn_l3_b l) s
theorem M.impl_KindsIn_l3_n {R : Type} (l : List Row) (s : Int × List Row) (kn : Int × List Row → Option R) (ke : Int × Bool × List Row → Option R) : M.impl_KindsIn_l3_C l s kn ke = (M.impl_KindsIn_l3_b l s).bind fun r => match r with | .inl s => kn s | .inr t => ke t := by
  obtain ⟨v6, x'⟩ := s
  all_goals
    simp only [M.impl_KindsIn_l3_b, M.impl_KindsIn_l3_C, bif_bind, bind_bind, some_bind, none_bind, sumE_bind, optE_bind, letE_bind]
def A.impl_KindsIn_l3 (l : List Row) : Alt (Ex × St) := .leaf (Int × Bool × List Row) (fun t => (Ex.exit 0, { tm := [(0, V.d (D.sl false 3 l)), (3, V.own 300000 0), (6, V.d (D.int IntKind.i64 t.fst)), (7, V.d (D.bool t.snd.fst))], mem := [(300000, Cell.arr false true 0 1 t.snd.snd)] }))
def T.impl_KindsIn_l3 (l : List Row) (s : Int × List Row) : St := match s with
  | (v6, x') => { tm := [(0, V.d (D.sl false 3 l)), (3, V.own 300000 0), (6, V.d (D.int IntKind.i64 v6))], mem := [(300000, Cell.arr false true 0 1 x')] }
noncomputable def K.impl_KindsIn_l3 : KonC := (kcons 40 (P.slices_ContainsFunc M.slices_ContainsFunc pnil) knil)
noncomputable def L.impl_KindsIn_l3 : LoopC := lnil
theorem E.impl_KindsIn_l3 {R : Type} (l : List Row) (s : Int × List Row) (k : Ex → St → Option R) : denC X0 (K.impl_KindsIn_l3) (L.impl_KindsIn_l3) 17 (loopCode X0.P 17 3) (T.impl_KindsIn_l3 l s) k = M.impl_KindsIn_l3_C l s (fun s => k .normal (T.impl_KindsIn_l3 l s)) (fun t => (A.impl_KindsIn_l3 l).go t fun r => k r.1 r.2) := by
  obtain ⟨v6, x'⟩ := s
  all_goals kernel_rfl
theorem LC.impl_KindsIn_l3 : loops (loopCode X0.P 17 3) = [] := by kernel_rfl
noncomputable def PL.impl_KindsIn_l3 (S : St) : ResA (Ex × St) := match S with
  | { tm := [(0, V.d (D.sl false 3 l)), (3, V.own 300000 0), (6, V.d (D.int IntKind.i64 v6))], mem := [(300000, Cell.arr false true 0 1 x')] } => ⟨A.impl_KindsIn_l3 l, M.impl_KindsIn_l3 l ((v6, x'))⟩
  | _ => .none
theorem C.impl_KindsIn_l3 : LpOk X0 17 3 (loopCode X0.P 17 3) (PL.impl_KindsIn_l3) := by
  refine ⟨by kernel_rfl, fun S r hr => ?_⟩
  unfold PL.impl_KindsIn_l3 at hr
  split at hr
  · obtain ⟨x, hx, rfl⟩ := ResA.val_some hr
    exact lp_sound (K := K.impl_KindsIn_l3) (L := L.impl_KindsIn_l3) (b := M.impl_KindsIn_l3_b _) (tm := T.impl_KindsIn_l3 _) (tx := (A.impl_KindsIn_l3 _).enc) (kcons_ok (P.slices_ContainsFunc_ok C.slices_ContainsFunc pnil_ok) knil_ok) (by rw [LC.impl_KindsIn_l3]; exact LOk.nil) (fun s => by rw [E.impl_KindsIn_l3, M.impl_KindsIn_l3_n]; congr 1; funext r; cases r <;> first | rfl | exact Alt.go_eq _ _ _) (by intro t; intro h; cases h) hx (s := (_, _))
  · cases hr
noncomputable def M.impl_KindsIn_C {R : Type} (l : List Row) (k : List Row → Option R) : Option R :=
  (M.impl_KindsIn_l3 l ((0, []))).bind fun t219 => (bif flatRows t219.snd.snd then (k t219.snd.snd) else none)
noncomputable def M.impl_KindsIn (l : List Row) : Option (List Row) := M.impl_KindsIn_C l some
theorem M.impl_KindsIn_n {R : Type} (l : List Row) (k : List Row → Option R) : M.impl_KindsIn_C l k = (M.impl_KindsIn_C l some).bind k := by
  simp only [M.impl_KindsIn_C, bif_bind, bind_bind, some_bind, none_bind, sumE_bind, optE_bind, letE_bind]
noncomputable def K.impl_KindsIn : KonC := knil
noncomputable def L.impl_KindsIn : LoopC := (lcons 3 (PL.impl_KindsIn_l3) lnil)
theorem E.impl_KindsIn {R : Type} (l : List Row) (k : List Row → List Cell → Option R) : bodyC X0 (K.impl_KindsIn) (L.impl_KindsIn) 17 [V.d (D.sl false 3 l)] [] k = M.impl_KindsIn_C l (fun r => k [[D.sl true 1 r]] []) := by kernel_rfl
theorem LC.impl_KindsIn : loops (codeOf X0.P 17) = [loopCode X0.P 17 3] := by kernel_rfl
theorem C.impl_KindsIn : H.impl_KindsIn (M.impl_KindsIn) := by
  intro l r h
  exact fn_sound (enc := fun r => ([[D.sl true 1 r]], [])) (K := K.impl_KindsIn) (L := L.impl_KindsIn) (by kernel_rfl) knil_ok (by rw [LC.impl_KindsIn]; exact (LOk.cons (LpOk.at (C.impl_KindsIn_l3) (fun _ => rfl)) LOk.nil)) (by rw [E.impl_KindsIn, M.impl_KindsIn_n] <;> rfl) h

/-! laws_eqToken -/
def H.laws_eqToken (o : Int → List UInt8 → Int → Int → List UInt8 → Int → Option (Bool)) : Prop := ∀ (a : Int) (a1 : List UInt8) (a2 : Int) (b : Int) (b1 : List UInt8) (b2 : Int) (r : Bool), o a a1 a2 b b1 b2 = some r → call X0 42 [V.agg [V.d (D.int IntKind.i64 a), V.d (D.str a1), V.d (D.int IntKind.i64 a2)], V.agg [V.d (D.int IntKind.i64 b), V.d (D.str b1), V.d (D.int IntKind.i64 b2)]] [] = some ([[D.bool r]], [])
def P.laws_eqToken (o : Int → List UInt8 → Int → Int → List UInt8 → Int → Option (Bool)) (q : List V → List Cell → Res (List Row × List Cell)) (a : List V) (c : List Cell) : Res (List Row × List Cell) := match a, c with
  | [V.agg [V.d (D.int IntKind.i64 a), V.d (D.str a1), V.d (D.int IntKind.i64 a2)], V.agg [V.d (D.int IntKind.i64 b), V.d (D.str b1), V.d (D.int IntKind.i64 b2)]], [] => ⟨Bool, o a a1 a2 b b1 b2, fun r => ([[D.bool r]], [])⟩
  | a, c => q a c
theorem P.laws_eqToken_ok {o : Int → List UInt8 → Int → Int → List UInt8 → Int → Option (Bool)} {q : List V → List Cell → Res (List Row × List Cell)} (h : H.laws_eqToken o) (hq : FnOk X0 42 q) : FnOk X0 42 (P.laws_eqToken o q) := by
  intro a c r hr
  unfold P.laws_eqToken at hr
  split at hr
  · obtain ⟨x, hx, rfl⟩ := Res.val_some hr
    exact h _ _ _ _ _ _ x hx
  · exact hq _ _ _ hr
noncomputable def M.laws_eqToken_C {R : Type} (a : Int) (a1 : List UInt8) (a2 : Int) (b : Int) (b1 : List UInt8) (b2 : Int) (k : Bool → Option R) : Option R :=
  bif a != b then (k false) else (bif !a1 == b1 then (k false) else (bif a2 != b2 then (k false) else (k true)))
noncomputable def M.laws_eqToken (a : Int) (a1 : List UInt8) (a2 : Int) (b : Int) (b1 : List UInt8) (b2 : Int) : Option (Bool) := M.laws_eqToken_C a a1 a2 b b1 b2 some
theorem M.laws_eqToken_n {R : Type} (a : Int) (a1 : List UInt8) (a2 : Int) (b : Int) (b1 : List UInt8) (b2 : Int) (k : Bool → Option R) : M.laws_eqToken_C a a1 a2 b b1 b2 k = (M.laws_eqToken_C a a1 a2 b b1 b2 some).bind k := by
  simp only [M.laws_eqToken_C, bif_bind, bind_bind, some_bind, none_bind, sumE_bind, optE_bind, letE_bind]
noncomputable def K.laws_eqToken : KonC := knil
noncomputable def L.laws_eqToken : LoopC := lnil
theorem E.laws_eqToken {R : Type} (a : Int) (a1 : List UInt8) (a2 : Int) (b : Int) (b1 : List UInt8) (b2 : Int) (k : List Row → List Cell → Option R) : bodyC X0 (K.laws_eqToken) (L.laws_eqToken) 42 [V.agg [V.d (D.int IntKind.i64 a), V.d (D.str a1), V.d (D.int IntKind.i64 a2)], V.agg [V.d (D.int IntKind.i64 b), V.d (D.str b1), V.d (D.int IntKind.i64 b2)]] [] k = M.laws_eqToken_C a a1 a2 b b1 b2 (fun r => k [[D.bool r]] []) := by kernel_rfl
theorem LC.laws_eqToken : loops (codeOf X0.P 42) = [] := by kernel_rfl
theorem C.laws_eqToken : H.laws_eqToken (M.laws_eqToken) := by
  intro a a1 a2 b b1 b2 r h
  exact fn_sound (enc := fun r => ([[D.bool r]], [])) (K := K.laws_eqToken) (L := L.laws_eqToken) (by kernel_rfl) knil_ok (by rw [LC.laws_eqToken]; exact LOk.nil) (by rw [E.laws_eqToken, M.laws_eqToken_n] <;> rfl) h

/-! laws_eqTokenS -/
def H.laws_eqTokenS (o : List Row → List Row → Option (Bool)) : Prop := ∀ (a : List Row) (b : List Row) (r : Bool), o a b = some r → call X0 19 [V.d (D.sl false 3 a), V.d (D.sl false 3 b)] [] = some ([[D.bool r]], [])
def P.laws_eqTokenS (o : List Row → List Row → Option (Bool)) (q : List V → List Cell → Res (List Row × List Cell)) (a : List V) (c : List Cell) : Res (List Row × List Cell) := match a, c with
  | [V.d (D.sl false 3 a), V.d (D.sl false 3 b)], [] => ⟨Bool, o a b, fun r => ([[D.bool r]], [])⟩
  | a, c => q a c
theorem P.laws_eqTokenS_ok {o : List Row → List Row → Option (Bool)} {q : List V → List Cell → Res (List Row × List Cell)} (h : H.laws_eqTokenS o) (hq : FnOk X0 19 q) : FnOk X0 19 (P.laws_eqTokenS o q) := by
  intro a c r hr
  unfold P.laws_eqTokenS at hr
  split at hr
  · obtain ⟨x, hx, rfl⟩ := Res.val_some hr
    exact h _ _ x hx
  · exact hq _ _ _ hr
noncomputable def M.laws_eqTokenS_l4_C {R : Type} (a : List Row) (b : List Row) (s : Int) (kn : Int → Option R) (ke : (Unit) ⊕ (Int × Bool) → Option R) : Option R := match s with
  | i =>
    bif decide (i < (↑a.length : Int)) then
     ((idx a i).bind fun row223 =>
      ((cInt IntKind.i64 row223 0).bind fun n224 =>
       ((cStr row223 1).bind fun s225 =>
        ((cInt IntKind.i64 row223 2).bind fun n226 =>
         ((idx b i).bind fun row227 =>
          ((cInt IntKind.i64 row227 0).bind fun n228 =>
           ((cStr row227 1).bind fun s229 =>
            ((cInt IntKind.i64 row227 2).bind fun n230 =>
             ((M.laws_eqToken n224 s225 n226 n228 s229 n230).bind fun r231 => (bif !r231 then (ke (.inl ())) else (kn (IntKind.i64.wrap (i + 1))))))))))))) else (ke (.inr ((i, decide (i < (↑a.length : Int))))))
noncomputable def M.laws_eqTokenS_l4_b (a : List Row) (b : List Row) (s : Int) : Option ((Int) ⊕ ((Unit) ⊕ (Int × Bool))) := M.laws_eqTokenS_l4_C a b s (fun s => some (.inl s)) (fun t => some (.inr t))
noncomputable def M.laws_eqTokenS_l4 (a : List Row) (b : List Row) (s : Int) : Option ((Unit) ⊕ (Int × Bool)) := loopM (M.laws_eqTokenS_l4_b a b) s
theorem M.laws_eqTokenS_l4_n {R : Type} (a : List Row) (b : List Row) (s : Int) (kn : Int → Option R) (ke : (Unit) ⊕ (Int × Bool) → Option R) : M.laws_eqTokenS_l4_C a b s kn ke = (M.laws_eqTokenS_l4_b a b s).bind fun r => match r with | .inl s => kn s | .inr t => ke t := by
  skip
  all_goals
    simp only [M.laws_eqTokenS_l4_b, M.laws_eqTokenS_l4_C, bif_bind, bind_bind, some_bind, none_bind, sumE_bind, optE_bind, letE_bind]
def A.laws_eqTokenS_l4 (a : List Row) (b : List Row) : Alt (Ex × St) := .sum (.leaf (Unit) (fun t => (Ex.ret, { tm := [(4, V.d (D.bool false))], mem := [] }))) (.leaf (Int × Bool) (fun t => (Ex.exit 0, { tm := [(0, V.d (D.sl false 3 a)), (1, V.d (D.sl false 3 b)), (5, V.d (D.int IntKind.i64 t.fst)), (14, V.d (D.bool t.snd))], mem := [] })))
def T.laws_eqTokenS_l4 (a : List Row) (b : List Row) (s : Int) : St := match s with
  | i => { tm := [(0, V.d (D.sl false 3 a)), (1, V.d (D.sl false 3 b)), (5, V.d (D.int IntKind.i64 i))], mem := [] }
noncomputable def K.laws_eqTokenS_l4 : KonC := (kcons 42 (P.laws_eqToken M.laws_eqToken pnil) knil)
noncomputable def L.laws_eqTokenS_l4 : LoopC := lnil
theorem E.laws_eqTokenS_l4 {R : Type} (a : List Row) (b : List Row) (s : Int) (k : Ex → St → Option R) : denC X0 (K.laws_eqTokenS_l4) (L.laws_eqTokenS_l4) 19 (loopCode X0.P 19 4) (T.laws_eqTokenS_l4 a b s) k = M.laws_eqTokenS_l4_C a b s (fun s => k .normal (T.laws_eqTokenS_l4 a b s)) (fun t => (A.laws_eqTokenS_l4 a b).go t fun r => k r.1 r.2) := by
  skip
  all_goals kernel_rfl
theorem LC.laws_eqTokenS_l4 : loops (loopCode X0.P 19 4) = [] := by kernel_rfl
noncomputable def PL.laws_eqTokenS_l4 (S : St) : ResA (Ex × St) := match S with
  | { tm := [(0, V.d (D.sl false 3 a)), (1, V.d (D.sl false 3 b)), (5, V.d (D.int IntKind.i64 i))], mem := [] } => ⟨A.laws_eqTokenS_l4 a b, M.laws_eqTokenS_l4 a b i⟩
  | _ => .none
theorem C.laws_eqTokenS_l4 : LpOk X0 19 4 (loopCode X0.P 19 4) (PL.laws_eqTokenS_l4) := by
  refine ⟨by kernel_rfl, fun S r hr => ?_⟩
  unfold PL.laws_eqTokenS_l4 at hr
  split at hr
  · obtain ⟨x, hx, rfl⟩ := ResA.val_some hr
    exact lp_sound (K := K.laws_eqTokenS_l4) (L := L.laws_eqTokenS_l4) (b := M.laws_eqTokenS_l4_b _ _) (tm := T.laws_eqTokenS_l4 _ _) (tx := (A.laws_eqTokenS_l4 _ _).enc) (kcons_ok (P.laws_eqToken_ok C.laws_eqToken pnil_ok) knil_ok) (by rw [LC.laws_eqTokenS_l4]; exact LOk.nil) (fun s => by rw [E.laws_eqTokenS_l4, M.laws_eqTokenS_l4_n]; congr 1; funext r; cases r <;> first | rfl | exact Alt.go_eq _ _ _) (by intro t; rcases t with t | t <;> first | (intro h; cases h) | (intro h; cases h)) hx (s := _)
  · cases hr
noncomputable def M.laws_eqTokenS_C {R : Type} (a : List Row) (b : List Row) (k : Bool → Option R) : Option R :=
  bif (↑a.length : Int) != (↑b.length : Int) then (k false) else
   ((M.laws_eqTokenS_l4 a b 0).bind fun u234 =>
   sumE u234 (fun t232 => (k false)) fun u235 =>
    letE u235 fun t233 => (k true))
noncomputable def M.laws_eqTokenS (a : List Row) (b : List Row) : Option (Bool) := M.laws_eqTokenS_C a b some
theorem M.laws_eqTokenS_n {R : Type} (a : List Row) (b : List Row) (k : Bool → Option R) : M.laws_eqTokenS_C a b k = (M.laws_eqTokenS_C a b some).bind k := by
  simp only [M.laws_eqTokenS_C, bif_bind, bind_bind, some_bind, none_bind, sumE_bind, optE_bind, letE_bind]
noncomputable def K.laws_eqTokenS : KonC := knil
noncomputable def L.laws_eqTokenS : LoopC := (lcons 4 (PL.laws_eqTokenS_l4) lnil)
theorem E.laws_eqTokenS {R : Type} (a : List Row) (b : List Row) (k : List Row → List Cell → Option R) : bodyC X0 (K.laws_eqTokenS) (L.laws_eqTokenS) 19 [V.d (D.sl false 3 a), V.d (D.sl false 3 b)] [] k = M.laws_eqTokenS_C a b (fun r => k [[D.bool r]] []) := by kernel_rfl
theorem LC.laws_eqTokenS : loops (codeOf X0.P 19) = [loopCode X0.P 19 4] := by kernel_rfl
theorem C.laws_eqTokenS : H.laws_eqTokenS (M.laws_eqTokenS) := by
  intro a b r h
  exact fn_sound (enc := fun r => ([[D.bool r]], [])) (K := K.laws_eqTokenS) (L := L.laws_eqTokenS) (by kernel_rfl) knil_ok (by rw [LC.laws_eqTokenS]; exact (LOk.cons (LpOk.at (C.laws_eqTokenS_l4) (fun _ => rfl)) LOk.nil)) (by rw [E.laws_eqTokenS, M.laws_eqTokenS_n] <;> rfl) h

/-! laws_markText -/
def H.laws_markText (o : Int → Option (List UInt8)) : Prop := ∀ (k' : Int) (r : List UInt8), o k' = some r → call X0 43 [V.d (D.int IntKind.i64 k')] [] = some ([[D.str r]], [])
def P.laws_markText (o : Int → Option (List UInt8)) (q : List V → List Cell → Res (List Row × List Cell)) (a : List V) (c : List Cell) : Res (List Row × List Cell) := match a, c with
  | [V.d (D.int IntKind.i64 k')], [] => ⟨List UInt8, o k', fun r => ([[D.str r]], [])⟩
  | a, c => q a c
theorem P.laws_markText_ok {o : Int → Option (List UInt8)} {q : List V → List Cell → Res (List Row × List Cell)} (h : H.laws_markText o) (hq : FnOk X0 43 q) : FnOk X0 43 (P.laws_markText o q) := by
  intro a c r hr
  unfold P.laws_markText at hr
  split at hr
  · obtain ⟨x, hx, rfl⟩ := Res.val_some hr
    exact h _ x hx
  · exact hq _ _ _ hr
noncomputable def M.laws_markText_l4_C {R : Type} (s : Int × List UInt8) (kn : Int × List UInt8 → Option R) (ke : Int × List UInt8 × Bool → Option R) : Option R := match s with
  | (k', out') =>
    bif decide (k' > 0) then
     (bif ([UInt8.ofNat (IntKind.u8.wrap (IntKind.i64.wrap (48 + k'.tmod 10))).toNat].length + out'.length).ble 9223372036854775807 then
      (kn ((IntKind.i64.wrap (k'.tdiv 10), [UInt8.ofNat (IntKind.u8.wrap (IntKind.i64.wrap (48 + k'.tmod 10))).toNat] ++ out'))) else none) else (ke ((k', out', decide (k' > 0))))
noncomputable def M.laws_markText_l4_b (s : Int × List UInt8) : Option ((Int × List UInt8) ⊕ (Int × List UInt8 × Bool)) := M.laws_markText_l4_C s (fun s => some (.inl s)) (fun t => some (.inr t))
noncomputable def M.laws_markText_l4 (s : Int × List UInt8) : Option (Int × List UInt8 × Bool) := loopM (M.laws_markText_l4_b) s
theorem M.laws_markText_l4_n {R : Type} (s : Int × List UInt8) (kn : Int × List UInt8 → Option R) (ke : Int × List UInt8 × Bool → Option R) : M.laws_markText_l4_C s kn ke = (M.laws_markText_l4_b s).bind fun r => match r with | .inl s => kn s | .inr t => ke t := by
  obtain ⟨k', out'⟩ := s
  all_goals
    simp only [M.laws_markText_l4_b, M.laws_markText_l4_C, bif_bind, bind_bind, some_bind, none_bind, sumE_bind, optE_bind, letE_bind]
def A.laws_markText_l4 : Alt (Ex × St) := .leaf (Int × List UInt8 × Bool) (fun t => (Ex.exit 0, { tm := [(0, V.d (D.int IntKind.i64 t.fst)), (3, V.d (D.str t.snd.fst)), (7, V.d (D.bool t.snd.snd))], mem := [] }))
def T.laws_markText_l4 (s : Int × List UInt8) : St := match s with
  | (k', out') => { tm := [(0, V.d (D.int IntKind.i64 k')), (3, V.d (D.str out'))], mem := [] }
noncomputable def K.laws_markText_l4 : KonC := knil
noncomputable def L.laws_markText_l4 : LoopC := lnil
theorem E.laws_markText_l4 {R : Type} (s : Int × List UInt8) (k : Ex → St → Option R) : denC X0 (K.laws_markText_l4) (L.laws_markText_l4) 43 (loopCode X0.P 43 4) (T.laws_markText_l4 s) k = M.laws_markText_l4_C s (fun s => k .normal (T.laws_markText_l4 s)) (fun t => (A.laws_markText_l4).go t fun r => k r.1 r.2) := by
  obtain ⟨k', out'⟩ := s
  all_goals kernel_rfl
theorem LC.laws_markText_l4 : loops (loopCode X0.P 43 4) = [] := by kernel_rfl
noncomputable def PL.laws_markText_l4 (S : St) : ResA (Ex × St) := match S with
  | { tm := [(0, V.d (D.int IntKind.i64 k')), (3, V.d (D.str out'))], mem := [] } => ⟨A.laws_markText_l4, M.laws_markText_l4 ((k', out'))⟩
  | _ => .none
theorem C.laws_markText_l4 : LpOk X0 43 4 (loopCode X0.P 43 4) (PL.laws_markText_l4) := by
  refine ⟨by kernel_rfl, fun S r hr => ?_⟩
  unfold PL.laws_markText_l4 at hr
  split at hr
  · obtain ⟨x, hx, rfl⟩ := ResA.val_some hr
    exact lp_sound (K := K.laws_markText_l4) (L := L.laws_markText_l4) (b := M.laws_markText_l4_b) (tm := T.laws_markText_l4) (tx := (A.laws_markText_l4).enc) knil_ok (by rw [LC.laws_markText_l4]; exact LOk.nil) (fun s => by rw [E.laws_markText_l4, M.laws_markText_l4_n]; congr 1; funext r; cases r <;> first | rfl | exact Alt.go_eq _ _ _) (by intro t; intro h; cases h) hx (s := (_, _))
  · cases hr
noncomputable def M.laws_markText_C {R : Type} (k' : Int) (k : List UInt8 → Option R) : Option R :=
  bif decide (k' ≤ 0) then (k [109, 48]) else
   ((M.laws_markText_l4 ((k', []))).bind fun t239 =>
    (bif (1 + t239.snd.fst.length).ble 9223372036854775807 then (k ([109] ++ t239.snd.fst)) else none))
noncomputable def M.laws_markText (k' : Int) : Option (List UInt8) := M.laws_markText_C k' some
theorem M.laws_markText_n {R : Type} (k' : Int) (k : List UInt8 → Option R) : M.laws_markText_C k' k = (M.laws_markText_C k' some).bind k := by
  simp only [M.laws_markText_C, bif_bind, bind_bind, some_bind, none_bind, sumE_bind, optE_bind, letE_bind]
noncomputable def K.laws_markText : KonC := knil
noncomputable def L.laws_markText : LoopC := (lcons 4 (PL.laws_markText_l4) lnil)
theorem E.laws_markText {R : Type} (k' : Int) (k : List Row → List Cell → Option R) : bodyC X0 (K.laws_markText) (L.laws_markText) 43 [V.d (D.int IntKind.i64 k')] [] k = M.laws_markText_C k' (fun r => k [[D.str r]] []) := by kernel_rfl
theorem LC.laws_markText : loops (codeOf X0.P 43) = [loopCode X0.P 43 4] := by kernel_rfl
theorem C.laws_markText : H.laws_markText (M.laws_markText) := by
  intro k' r h
  exact fn_sound (enc := fun r => ([[D.str r]], [])) (K := K.laws_markText) (L := L.laws_markText) (by kernel_rfl) knil_ok (by rw [LC.laws_markText]; exact (LOk.cons (LpOk.at (C.laws_markText_l4) (fun _ => rfl)) LOk.nil)) (by rw [E.laws_markText, M.laws_markText_n] <;> rfl) h

/-! laws_markTokenS -/
def H.laws_markTokenS (o : Int → List Row → Option (Int × List Row)) : Prop := ∀ (k' : Int) (c : List Row) (r : Int × List Row), o k' c = some r → call X0 20 [V.own 100000 0, V.d (D.int IntKind.i64 k')] [Cell.arr false true 0 3 c] = some ([[D.int IntKind.i64 r.fst]], [Cell.arr false true 0 3 r.snd])
def P.laws_markTokenS (o : Int → List Row → Option (Int × List Row)) (q : List V → List Cell → Res (List Row × List Cell)) (a : List V) (c : List Cell) : Res (List Row × List Cell) := match a, c with
  | [V.own 100000 0, V.d (D.int IntKind.i64 k')], [Cell.arr false true 0 3 c] => ⟨Int × List Row, o k' c, fun r => ([[D.int IntKind.i64 r.fst]], [Cell.arr false true 0 3 r.snd])⟩
  | a, c => q a c
theorem P.laws_markTokenS_ok {o : Int → List Row → Option (Int × List Row)} {q : List V → List Cell → Res (List Row × List Cell)} (h : H.laws_markTokenS o) (hq : FnOk X0 20 q) : FnOk X0 20 (P.laws_markTokenS o q) := by
  intro a c r hr
  unfold P.laws_markTokenS at hr
  split at hr
  · obtain ⟨x, hx, rfl⟩ := Res.val_some hr
    exact h _ _ x hx
  · exact hq _ _ _ hr
noncomputable def M.laws_markTokenS_l2_C {R : Type} (s : Int × Int × List Row) (kn : Int × Int × List Row → Option R) (ke : Int × Int × Bool × List Row → Option R) : Option R := match s with
  | (k', i, v) =>
    bif decide (i < (↑v.length : Int)) then
     ((idx v i).bind fun row237 =>
      (v[i.toNat]?.bind fun row238 =>
       ((M.laws_markText (IntKind.i64.wrap (k' + 1))).bind fun r240 =>
        ((idx (v.set i.toNat (splice row238 0 [D.int IntKind.i64 k'])) i).bind fun row241 =>
         (((v.set i.toNat (splice row238 0 [D.int IntKind.i64 k']))[i.toNat]?).bind fun row242 =>
          ((idx ((v.set i.toNat (splice row238 0 [D.int IntKind.i64 k'])).set i.toNat (splice row242 1 [D.str r240])) i).bind fun row243 =>
           ((((v.set i.toNat (splice row238 0 [D.int IntKind.i64 k'])).set i.toNat (splice row242 1 [D.str r240]))[i.toNat]?).bind fun row244 =>
            (kn ((IntKind.i64.wrap (IntKind.i64.wrap (IntKind.i64.wrap (k' + 1) + 1) + 1), IntKind.i64.wrap (i + 1), ((v.set i.toNat (splice row238 0 [D.int IntKind.i64 k'])).set i.toNat (splice row242 1 [D.str r240])).set i.toNat (splice row244 2 [D.int IntKind.i64 (IntKind.i64.wrap (IntKind.i64.wrap (k' + 1) + 1))]))))))))))) else (ke ((k', i, decide (i < (↑v.length : Int)), v)))
noncomputable def M.laws_markTokenS_l2_b (s : Int × Int × List Row) : Option ((Int × Int × List Row) ⊕ (Int × Int × Bool × List Row)) := M.laws_markTokenS_l2_C s (fun s => some (.inl s)) (fun t => some (.inr t))
noncomputable def M.laws_markTokenS_l2 (s : Int × Int × List Row) : Option (Int × Int × Bool × List Row) := loopM (M.laws_markTokenS_l2_b) s
theorem M.laws_markTokenS_l2_n {R : Type} (s : Int × Int × List Row) (kn : Int × Int × List Row → Option R) (ke : Int × Int × Bool × List Row → Option R) : M.laws_markTokenS_l2_C s kn ke = (M.laws_markTokenS_l2_b s).bind fun r => match r with | .inl s => kn s | .inr t => ke t := by
  obtain ⟨k', i, v⟩ := s
  all_goals
    simp only [M.laws_markTokenS_l2_b, M.laws_markTokenS_l2_C, bif_bind, bind_bind, some_bind, none_bind, sumE_bind, optE_bind, letE_bind]
def A.laws_markTokenS_l2 : Alt (Ex × St) := .leaf (Int × Int × Bool × List Row) (fun t => (Ex.exit 0, { tm := [(0, V.own 100000 0), (1, V.d (D.int IntKind.i64 t.fst)), (5, V.d (D.int IntKind.i64 t.snd.fst)), (9, V.d (D.bool t.snd.snd.fst))], mem := [(100000, Cell.arr false true 0 3 t.snd.snd.snd)] }))
def T.laws_markTokenS_l2 (s : Int × Int × List Row) : St := match s with
  | (k', i, v) => { tm := [(0, V.own 100000 0), (1, V.d (D.int IntKind.i64 k')), (5, V.d (D.int IntKind.i64 i))], mem := [(100000, Cell.arr false true 0 3 v)] }
noncomputable def K.laws_markTokenS_l2 : KonC := (kcons 43 (P.laws_markText M.laws_markText pnil) knil)
noncomputable def L.laws_markTokenS_l2 : LoopC := lnil
theorem E.laws_markTokenS_l2 {R : Type} (s : Int × Int × List Row) (k : Ex → St → Option R) : denC X0 (K.laws_markTokenS_l2) (L.laws_markTokenS_l2) 20 (loopCode X0.P 20 2) (T.laws_markTokenS_l2 s) k = M.laws_markTokenS_l2_C s (fun s => k .normal (T.laws_markTokenS_l2 s)) (fun t => (A.laws_markTokenS_l2).go t fun r => k r.1 r.2) := by
  obtain ⟨k', i, v⟩ := s
  all_goals kernel_rfl
theorem LC.laws_markTokenS_l2 : loops (loopCode X0.P 20 2) = [] := by kernel_rfl
noncomputable def PL.laws_markTokenS_l2 (S : St) : ResA (Ex × St) := match S with
  | { tm := [(0, V.own 100000 0), (1, V.d (D.int IntKind.i64 k')), (5, V.d (D.int IntKind.i64 i))], mem := [(100000, Cell.arr false true 0 3 v)] } => ⟨A.laws_markTokenS_l2, M.laws_markTokenS_l2 ((k', i, v))⟩
  | _ => .none
theorem C.laws_markTokenS_l2 : LpOk X0 20 2 (loopCode X0.P 20 2) (PL.laws_markTokenS_l2) := by
  refine ⟨by kernel_rfl, fun S r hr => ?_⟩
  unfold PL.laws_markTokenS_l2 at hr
  split at hr
  · obtain ⟨x, hx, rfl⟩ := ResA.val_some hr
    exact lp_sound (K := K.laws_markTokenS_l2) (L := L.laws_markTokenS_l2) (b := M.laws_markTokenS_l2_b) (tm := T.laws_markTokenS_l2) (tx := (A.laws_markTokenS_l2).enc) (kcons_ok (P.laws_markText_ok C.laws_markText pnil_ok) knil_ok) (by rw [LC.laws_markTokenS_l2]; exact LOk.nil) (fun s => by rw [E.laws_markTokenS_l2, M.laws_markTokenS_l2_n]; congr 1; funext r; cases r <;> first | rfl | exact Alt.go_eq _ _ _) (by intro t; intro h; cases h) hx (s := (_, _, _))
  · cases hr
noncomputable def M.laws_markTokenS_C {R : Type} (k' : Int) (c : List Row) (k : Int × List Row → Option R) : Option R :=
  (M.laws_markTokenS_l2 ((k', 0, c))).bind fun t245 => (k ((t245.fst, t245.snd.snd.snd)))
noncomputable def M.laws_markTokenS (k' : Int) (c : List Row) : Option (Int × List Row) := M.laws_markTokenS_C k' c some
theorem M.laws_markTokenS_n {R : Type} (k' : Int) (c : List Row) (k : Int × List Row → Option R) : M.laws_markTokenS_C k' c k = (M.laws_markTokenS_C k' c some).bind k := by
  simp only [M.laws_markTokenS_C, bif_bind, bind_bind, some_bind, none_bind, sumE_bind, optE_bind, letE_bind]
noncomputable def K.laws_markTokenS : KonC := knil
noncomputable def L.laws_markTokenS : LoopC := (lcons 2 (PL.laws_markTokenS_l2) lnil)
theorem E.laws_markTokenS {R : Type} (k' : Int) (c : List Row) (k : List Row → List Cell → Option R) : bodyC X0 (K.laws_markTokenS) (L.laws_markTokenS) 20 [V.own 100000 0, V.d (D.int IntKind.i64 k')] [Cell.arr false true 0 3 c] k = M.laws_markTokenS_C k' c (fun r => k [[D.int IntKind.i64 r.fst]] [Cell.arr false true 0 3 r.snd]) := by kernel_rfl
theorem LC.laws_markTokenS : loops (codeOf X0.P 20) = [loopCode X0.P 20 2] := by kernel_rfl
theorem C.laws_markTokenS : H.laws_markTokenS (M.laws_markTokenS) := by
  intro k' c r h
  exact fn_sound (enc := fun r => ([[D.int IntKind.i64 r.fst]], [Cell.arr false true 0 3 r.snd])) (K := K.laws_markTokenS) (L := L.laws_markTokenS) (by kernel_rfl) knil_ok (by rw [LC.laws_markTokenS]; exact (LOk.cons (LpOk.at (C.laws_markTokenS_l2) (fun _ => rfl)) LOk.nil)) (by rw [E.laws_markTokenS, M.laws_markTokenS_n] <;> rfl) h

/-! laws_markIntS -/
def H.laws_markIntS (o : Int → List Row → Option (Int × List Row)) : Prop := ∀ (k' : Int) (c : List Row) (r : Int × List Row), o k' c = some r → call X0 21 [V.own 100000 0, V.d (D.int IntKind.i64 k')] [Cell.arr false true 0 1 c] = some ([[D.int IntKind.i64 r.fst]], [Cell.arr false true 0 1 r.snd])
def P.laws_markIntS (o : Int → List Row → Option (Int × List Row)) (q : List V → List Cell → Res (List Row × List Cell)) (a : List V) (c : List Cell) : Res (List Row × List Cell) := match a, c with
  | [V.own 100000 0, V.d (D.int IntKind.i64 k')], [Cell.arr false true 0 1 c] => ⟨Int × List Row, o k' c, fun r => ([[D.int IntKind.i64 r.fst]], [Cell.arr false true 0 1 r.snd])⟩
  | a, c => q a c
theorem P.laws_markIntS_ok {o : Int → List Row → Option (Int × List Row)} {q : List V → List Cell → Res (List Row × List Cell)} (h : H.laws_markIntS o) (hq : FnOk X0 21 q) : FnOk X0 21 (P.laws_markIntS o q) := by
  intro a c r hr
  unfold P.laws_markIntS at hr
  split at hr
  · obtain ⟨x, hx, rfl⟩ := Res.val_some hr
    exact h _ _ x hx
  · exact hq _ _ _ hr
noncomputable def M.laws_markIntS_l2_C {R : Type} (s : Int × Int × List Row) (kn : Int × Int × List Row → Option R) (ke : Int × Int × Bool × List Row → Option R) : Option R := match s with
  | (k', i, v) =>
    bif decide (i < (↑v.length : Int)) then
     ((idx v i).bind fun row248 =>
      (v[i.toNat]?.bind fun row249 =>
       (kn ((IntKind.i64.wrap (k' + 1), IntKind.i64.wrap (i + 1), v.set i.toNat (splice row249 0 [D.int IntKind.i64 k'])))))) else (ke ((k', i, decide (i < (↑v.length : Int)), v)))
noncomputable def M.laws_markIntS_l2_b (s : Int × Int × List Row) : Option ((Int × Int × List Row) ⊕ (Int × Int × Bool × List Row)) := M.laws_markIntS_l2_C s (fun s => some (.inl s)) (fun t => some (.inr t))
noncomputable def M.laws_markIntS_l2 (s : Int × Int × List Row) : Option (Int × Int × Bool × List Row) := loopM (M.laws_markIntS_l2_b) s
theorem M.laws_markIntS_l2_n {R : Type} (s : Int × Int × List Row) (kn : Int × Int × List Row → Option R) (ke : Int × Int × Bool × List Row → Option R) : M.laws_markIntS_l2_C s kn ke = (M.laws_markIntS_l2_b s).bind fun r => match r with | .inl s => kn s | .inr t => ke t := by
  obtain ⟨k', i, v⟩ := s
  all_goals
    simp only [M.laws_markIntS_l2_b, M.laws_markIntS_l2_C, bif_bind, bind_bind, some_bind, none_bind, sumE_bind, optE_bind, letE_bind]
def A.laws_markIntS_l2 : Alt (Ex × St) := .leaf (Int × Int × Bool × List Row) (fun t => (Ex.exit 0, { tm := [(0, V.own 100000 0), (1, V.d (D.int IntKind.i64 t.fst)), (5, V.d (D.int IntKind.i64 t.snd.fst)), (9, V.d (D.bool t.snd.snd.fst))], mem := [(100000, Cell.arr false true 0 1 t.snd.snd.snd)] }))
def T.laws_markIntS_l2 (s : Int × Int × List Row) : St := match s with
  | (k', i, v) => { tm := [(0, V.own 100000 0), (1, V.d (D.int IntKind.i64 k')), (5, V.d (D.int IntKind.i64 i))], mem := [(100000, Cell.arr false true 0 1 v)] }
noncomputable def K.laws_markIntS_l2 : KonC := knil
noncomputable def L.laws_markIntS_l2 : LoopC := lnil
theorem E.laws_markIntS_l2 {R : Type} (s : Int × Int × List Row) (k : Ex → St → Option R) : denC X0 (K.laws_markIntS_l2) (L.laws_markIntS_l2) 21 (loopCode X0.P 21 2) (T.laws_markIntS_l2 s) k = M.laws_markIntS_l2_C s (fun s => k .normal (T.laws_markIntS_l2 s)) (fun t => (A.laws_markIntS_l2).go t fun r => k r.1 r.2) := by
  obtain ⟨k', i, v⟩ := s
  all_goals kernel_rfl
theorem LC.laws_markIntS_l2 : loops (loopCode X0.P 21 2) = [] := by kernel_rfl
noncomputable def PL.laws_markIntS_l2 (S : St) : ResA (Ex × St) := match S with
  | { tm := [(0, V.own 100000 0), (1, V.d (D.int IntKind.i64 k')), (5, V.d (D.int IntKind.i64 i))], mem := [(100000, Cell.arr false true 0 1 v)] } => ⟨A.laws_markIntS_l2, M.laws_markIntS_l2 ((k', i, v))⟩
  | _ => .none
theorem C.laws_markIntS_l2 : LpOk X0 21 2 (loopCode X0.P 21 2) (PL.laws_markIntS_l2) := by
  refine ⟨by kernel_rfl, fun S r hr => ?_⟩
  unfold PL.laws_markIntS_l2 at hr
  split at hr
  · obtain ⟨x, hx, rfl⟩ := ResA.val_some hr
    exact lp_sound (K := K.laws_markIntS_l2) (L := L.laws_markIntS_l2) (b := M.laws_markIntS_l2_b) (tm := T.laws_markIntS_l2) (tx := (A.laws_markIntS_l2).enc) knil_ok (by rw [LC.laws_markIntS_l2]; exact LOk.nil) (fun s => by rw [E.laws_markIntS_l2, M.laws_markIntS_l2_n]; congr 1; funext r; cases r <;> first | rfl | exact Alt.go_eq _ _ _) (by intro t; intro h; cases h) hx (s := (_, _, _))
  · cases hr
noncomputable def M.laws_markIntS_C {R : Type} (k' : Int) (c : List Row) (k : Int × List Row → Option R) : Option R :=
  (M.laws_markIntS_l2 ((k', 0, c))).bind fun t250 => (k ((t250.fst, t250.snd.snd.snd)))
noncomputable def M.laws_markIntS (k' : Int) (c : List Row) : Option (Int × List Row) := M.laws_markIntS_C k' c some
theorem M.laws_markIntS_n {R : Type} (k' : Int) (c : List Row) (k : Int × List Row → Option R) : M.laws_markIntS_C k' c k = (M.laws_markIntS_C k' c some).bind k := by
  simp only [M.laws_markIntS_C, bif_bind, bind_bind, some_bind, none_bind, sumE_bind, optE_bind, letE_bind]
noncomputable def K.laws_markIntS : KonC := knil
noncomputable def L.laws_markIntS : LoopC := (lcons 2 (PL.laws_markIntS_l2) lnil)
theorem E.laws_markIntS {R : Type} (k' : Int) (c : List Row) (k : List Row → List Cell → Option R) : bodyC X0 (K.laws_markIntS) (L.laws_markIntS) 21 [V.own 100000 0, V.d (D.int IntKind.i64 k')] [Cell.arr false true 0 1 c] k = M.laws_markIntS_C k' c (fun r => k [[D.int IntKind.i64 r.fst]] [Cell.arr false true 0 1 r.snd]) := by kernel_rfl
theorem LC.laws_markIntS : loops (codeOf X0.P 21) = [loopCode X0.P 21 2] := by kernel_rfl
theorem C.laws_markIntS : H.laws_markIntS (M.laws_markIntS) := by
  intro k' c r h
  exact fn_sound (enc := fun r => ([[D.int IntKind.i64 r.fst]], [Cell.arr false true 0 1 r.snd])) (K := K.laws_markIntS) (L := L.laws_markIntS) (by kernel_rfl) knil_ok (by rw [LC.laws_markIntS]; exact (LOk.cons (LpOk.at (C.laws_markIntS_l2) (fun _ => rfl)) LOk.nil)) (by rw [E.laws_markIntS, M.laws_markIntS_n] <;> rfl) h

/-! laws_heldIntS -/
def H.laws_heldIntS (o : List Row → Int → Option (Int)) : Prop := ∀ (a : List Row) (k' : Int) (r : Int), o a k' = some r → call X0 22 [V.d (D.sl false 1 a), V.d (D.int IntKind.i64 k')] [] = some ([[D.int IntKind.i64 r]], [])
def P.laws_heldIntS (o : List Row → Int → Option (Int)) (q : List V → List Cell → Res (List Row × List Cell)) (a : List V) (c : List Cell) : Res (List Row × List Cell) := match a, c with
  | [V.d (D.sl false 1 a), V.d (D.int IntKind.i64 k')], [] => ⟨Int, o a k', fun r => ([[D.int IntKind.i64 r]], [])⟩
  | a, c => q a c
theorem P.laws_heldIntS_ok {o : List Row → Int → Option (Int)} {q : List V → List Cell → Res (List Row × List Cell)} (h : H.laws_heldIntS o) (hq : FnOk X0 22 q) : FnOk X0 22 (P.laws_heldIntS o q) := by
  intro a c r hr
  unfold P.laws_heldIntS at hr
  split at hr
  · obtain ⟨x, hx, rfl⟩ := Res.val_some hr
    exact h _ _ x hx
  · exact hq _ _ _ hr
noncomputable def M.laws_heldIntS_l2_C {R : Type} (a : List Row) (s : Int × Int) (kn : Int × Int → Option R) (ke : (Unit) ⊕ (Int × Int × Bool) → Option R) : Option R := match s with
  | (k', i) =>
    bif decide (i < (↑a.length : Int)) then
     ((idx a i).bind fun row252 =>
      ((cInt IntKind.i64 row252 0).bind fun n253 =>
       (bif n253 != k' then (ke (.inl ())) else (kn ((IntKind.i64.wrap (k' + 1), IntKind.i64.wrap (i + 1))))))) else (ke (.inr ((k', i, decide (i < (↑a.length : Int))))))
noncomputable def M.laws_heldIntS_l2_b (a : List Row) (s : Int × Int) : Option ((Int × Int) ⊕ ((Unit) ⊕ (Int × Int × Bool))) := M.laws_heldIntS_l2_C a s (fun s => some (.inl s)) (fun t => some (.inr t))
noncomputable def M.laws_heldIntS_l2 (a : List Row) (s : Int × Int) : Option ((Unit) ⊕ (Int × Int × Bool)) := loopM (M.laws_heldIntS_l2_b a) s
theorem M.laws_heldIntS_l2_n {R : Type} (a : List Row) (s : Int × Int) (kn : Int × Int → Option R) (ke : (Unit) ⊕ (Int × Int × Bool) → Option R) : M.laws_heldIntS_l2_C a s kn ke = (M.laws_heldIntS_l2_b a s).bind fun r => match r with | .inl s => kn s | .inr t => ke t := by
  obtain ⟨k', i⟩ := s
  all_goals
    simp only [M.laws_heldIntS_l2_b, M.laws_heldIntS_l2_C, bif_bind, bind_bind, some_bind, none_bind, sumE_bind, optE_bind, letE_bind]
def A.laws_heldIntS_l2 (a : List Row) : Alt (Ex × St) := .sum (.leaf (Unit) (fun t => (Ex.ret, { tm := [(4, V.d (D.int IntKind.i64 (-1)))], mem := [] }))) (.leaf (Int × Int × Bool) (fun t => (Ex.exit 0, { tm := [(0, V.d (D.sl false 1 a)), (1, V.d (D.int IntKind.i64 t.fst)), (5, V.d (D.int IntKind.i64 t.snd.fst)), (9, V.d (D.bool t.snd.snd))], mem := [] })))
def T.laws_heldIntS_l2 (a : List Row) (s : Int × Int) : St := match s with
  | (k', i) => { tm := [(0, V.d (D.sl false 1 a)), (1, V.d (D.int IntKind.i64 k')), (5, V.d (D.int IntKind.i64 i))], mem := [] }
noncomputable def K.laws_heldIntS_l2 : KonC := knil
noncomputable def L.laws_heldIntS_l2 : LoopC := lnil
theorem E.laws_heldIntS_l2 {R : Type} (a : List Row) (s : Int × Int) (k : Ex → St → Option R) : denC X0 (K.laws_heldIntS_l2) (L.laws_heldIntS_l2) 22 (loopCode X0.P 22 2) (T.laws_heldIntS_l2 a s) k = M.laws_heldIntS_l2_C a s (fun s => k .normal (T.laws_heldIntS_l2 a s)) (fun t => (A.laws_heldIntS_l2 a).go t fun r => k r.1 r.2) := by
  obtain ⟨k', i⟩ := s
  all_goals kernel_rfl
theorem LC.laws_heldIntS_l2 : loops (loopCode X0.P 22 2) = [] := by kernel_rfl
noncomputable def PL.laws_heldIntS_l2 (S : St) : ResA (Ex × St) := match S with
  | { tm := [(0, V.d (D.sl false 1 a)), (1, V.d (D.int IntKind.i64 k')), (5, V.d (D.int IntKind.i64 i))], mem := [] } => ⟨A.laws_heldIntS_l2 a, M.laws_heldIntS_l2 a ((k', i))⟩
  | _ => .none
theorem C.laws_heldIntS_l2 : LpOk X0 22 2 (loopCode X0.P 22 2) (PL.laws_heldIntS_l2) := by
  refine ⟨by kernel_rfl, fun S r hr => ?_⟩
  unfold PL.laws_heldIntS_l2 at hr
  split at hr
  · obtain ⟨x, hx, rfl⟩ := ResA.val_some hr
    exact lp_sound (K := K.laws_heldIntS_l2) (L := L.laws_heldIntS_l2) (b := M.laws_heldIntS_l2_b _) (tm := T.laws_heldIntS_l2 _) (tx := (A.laws_heldIntS_l2 _).enc) knil_ok (by rw [LC.laws_heldIntS_l2]; exact LOk.nil) (fun s => by rw [E.laws_heldIntS_l2, M.laws_heldIntS_l2_n]; congr 1; funext r; cases r <;> first | rfl | exact Alt.go_eq _ _ _) (by intro t; rcases t with t | t <;> first | (intro h; cases h) | (intro h; cases h)) hx (s := (_, _))
  · cases hr
noncomputable def M.laws_heldIntS_C {R : Type} (a : List Row) (k' : Int) (k : Int → Option R) : Option R :=
  (M.laws_heldIntS_l2 a ((k', 0))).bind fun u256 =>
  sumE u256 (fun t254 => (k (-1))) fun u257 =>
   letE u257 fun t255 => (k t255.fst)
noncomputable def M.laws_heldIntS (a : List Row) (k' : Int) : Option (Int) := M.laws_heldIntS_C a k' some
theorem M.laws_heldIntS_n {R : Type} (a : List Row) (k' : Int) (k : Int → Option R) : M.laws_heldIntS_C a k' k = (M.laws_heldIntS_C a k' some).bind k := by
  simp only [M.laws_heldIntS_C, bif_bind, bind_bind, some_bind, none_bind, sumE_bind, optE_bind, letE_bind]
noncomputable def K.laws_heldIntS : KonC := knil
noncomputable def L.laws_heldIntS : LoopC := (lcons 2 (PL.laws_heldIntS_l2) lnil)
theorem E.laws_heldIntS {R : Type} (a : List Row) (k' : Int) (k : List Row → List Cell → Option R) : bodyC X0 (K.laws_heldIntS) (L.laws_heldIntS) 22 [V.d (D.sl false 1 a), V.d (D.int IntKind.i64 k')] [] k = M.laws_heldIntS_C a k' (fun r => k [[D.int IntKind.i64 r]] []) := by kernel_rfl
theorem LC.laws_heldIntS : loops (codeOf X0.P 22) = [loopCode X0.P 22 2] := by kernel_rfl
theorem C.laws_heldIntS : H.laws_heldIntS (M.laws_heldIntS) := by
  intro a k' r h
  exact fn_sound (enc := fun r => ([[D.int IntKind.i64 r]], [])) (K := K.laws_heldIntS) (L := L.laws_heldIntS) (by kernel_rfl) knil_ok (by rw [LC.laws_heldIntS]; exact (LOk.cons (LpOk.at (C.laws_heldIntS_l2) (fun _ => rfl)) LOk.nil)) (by rw [E.laws_heldIntS, M.laws_heldIntS_n] <;> rfl) h

/-! laws_FnExactKindsIn -/
def H.laws_FnExactKindsIn (o : List Row → Option (Bool)) : Prop := ∀ (aL : List Row) (r : Bool), o aL = some r → call X0 4 [V.d (D.sl false 3 aL)] [] = some ([[D.bool r]], [])
def P.laws_FnExactKindsIn (o : List Row → Option (Bool)) (q : List V → List Cell → Res (List Row × List Cell)) (a : List V) (c : List Cell) : Res (List Row × List Cell) := match a, c with
  | [V.d (D.sl false 3 aL)], [] => ⟨Bool, o aL, fun r => ([[D.bool r]], [])⟩
  | a, c => q a c
theorem P.laws_FnExactKindsIn_ok {o : List Row → Option (Bool)} {q : List V → List Cell → Res (List Row × List Cell)} (h : H.laws_FnExactKindsIn o) (hq : FnOk X0 4 q) : FnOk X0 4 (P.laws_FnExactKindsIn o q) := by
  intro a c r hr
  unfold P.laws_FnExactKindsIn at hr
  split at hr
  · obtain ⟨x, hx, rfl⟩ := Res.val_some hr
    exact h _ x hx
  · exact hq _ _ _ hr
noncomputable def M.laws_FnExactKindsIn_C {R : Type} (aL : List Row) (k : Bool → Option R) : Option R :=
  (M.laws_szTokenS aL 1048576).bind fun r189 =>
   (bif decide (r189 < 0) then (k true) else
    ((M.laws_toTokenS aL).bind fun r198 =>
     ((M.spec_KindsIn r198).bind fun r206 =>
      (bif [[D.sl true 1 r206]].all pureRow then
       ((M.laws_toTokenS aL).bind fun r207 =>
        ((M.impl_KindsIn r207).bind fun r220 =>
         (bif [[D.sl true 1 r220]].all pureRow then
          ((M.laws_eqIntS r220 r206).bind fun r221 =>
           (bif !r221 then (k false) else
            ((M.laws_toTokenS aL).bind fun r222 =>
             ((M.laws_eqTokenS r207 r222).bind fun r236 =>
              (bif !r236 then (k false) else
               ((M.laws_markTokenS 1 r207).bind fun r246 =>
                (bif decide (r246.fst < 0) then (k false) else
                 ((M.laws_eqIntS r220 r206).bind fun r247 =>
                  (bif !r247 then (k false) else
                   ((M.laws_markIntS 1 r220).bind fun r251 =>
                    ((M.laws_heldIntS r251.snd 1).bind fun r258 =>
                     (bif decide (r258 < 0) then (k false) else
                      (bif r258 != r251.fst then (k false) else
                       ((M.laws_toTokenS aL).bind fun r259 =>
                        ((M.impl_KindsIn r259).bind fun r260 =>
                         (bif [[D.sl true 1 r260]].all pureRow then
                          ((M.laws_eqIntS r260 r206).bind fun r261 =>
                           (bif !r261 then (k false) else
                            ((M.laws_heldIntS r251.snd 1).bind fun r262 =>
                             (bif decide (r262 < 0) then (k false) else (bif r262 != r251.fst then (k false) else (k true)))))) else none)))))))))))))))) else none))) else none))))
noncomputable def M.laws_FnExactKindsIn (aL : List Row) : Option (Bool) := M.laws_FnExactKindsIn_C aL some
theorem M.laws_FnExactKindsIn_n {R : Type} (aL : List Row) (k : Bool → Option R) : M.laws_FnExactKindsIn_C aL k = (M.laws_FnExactKindsIn_C aL some).bind k := by
  simp only [M.laws_FnExactKindsIn_C, bif_bind, bind_bind, some_bind, none_bind, sumE_bind, optE_bind, letE_bind]
noncomputable def K.laws_FnExactKindsIn : KonC := (kcons 14 (P.laws_szTokenS M.laws_szTokenS pnil) (kcons 16 (P.laws_toTokenS M.laws_toTokenS pnil) (kcons 15 (P.spec_KindsIn M.spec_KindsIn pnil) (kcons 17 (P.impl_KindsIn M.impl_KindsIn pnil) (kcons 18 (P.laws_eqIntS M.laws_eqIntS pnil) (kcons 19 (P.laws_eqTokenS M.laws_eqTokenS pnil) (kcons 20 (P.laws_markTokenS M.laws_markTokenS pnil) (kcons 21 (P.laws_markIntS M.laws_markIntS pnil) (kcons 22 (P.laws_heldIntS M.laws_heldIntS pnil) knil)))))))))
noncomputable def L.laws_FnExactKindsIn : LoopC := lnil
theorem E.laws_FnExactKindsIn {R : Type} (aL : List Row) (k : List Row → List Cell → Option R) : bodyC X0 (K.laws_FnExactKindsIn) (L.laws_FnExactKindsIn) 4 [V.d (D.sl false 3 aL)] [] k = M.laws_FnExactKindsIn_C aL (fun r => k [[D.bool r]] []) := by kernel_rfl
theorem LC.laws_FnExactKindsIn : loops (codeOf X0.P 4) = [] := by kernel_rfl
theorem C.laws_FnExactKindsIn : H.laws_FnExactKindsIn (M.laws_FnExactKindsIn) := by
  intro aL r h
  exact fn_sound (enc := fun r => ([[D.bool r]], [])) (K := K.laws_FnExactKindsIn) (L := L.laws_FnExactKindsIn) (by kernel_rfl) (kcons_ok (P.laws_szTokenS_ok C.laws_szTokenS pnil_ok) (kcons_ok (P.laws_toTokenS_ok C.laws_toTokenS pnil_ok) (kcons_ok (P.spec_KindsIn_ok C.spec_KindsIn pnil_ok) (kcons_ok (P.impl_KindsIn_ok C.impl_KindsIn pnil_ok) (kcons_ok (P.laws_eqIntS_ok C.laws_eqIntS pnil_ok) (kcons_ok (P.laws_eqTokenS_ok C.laws_eqTokenS pnil_ok) (kcons_ok (P.laws_markTokenS_ok C.laws_markTokenS pnil_ok) (kcons_ok (P.laws_markIntS_ok C.laws_markIntS pnil_ok) (kcons_ok (P.laws_heldIntS_ok C.laws_heldIntS pnil_ok) knil_ok))))))))) (by rw [LC.laws_FnExactKindsIn]; exact LOk.nil) (by rw [E.laws_FnExactKindsIn, M.laws_FnExactKindsIn_n] <;> rfl) h

/-! spec_l6Starts -/
def H.spec_l6Starts (o : List Row → Option (List Row × Bool)) : Prop := ∀ (l : List Row) (r : List Row × Bool), o l = some r → call X0 53 [V.d (D.sl false 5 l)] [] = some ([[D.sl true 1 r.fst], [D.bool r.snd]], [])
def P.spec_l6Starts (o : List Row → Option (List Row × Bool)) (q : List V → List Cell → Res (List Row × List Cell)) (a : List V) (c : List Cell) : Res (List Row × List Cell) := match a, c with
  | [V.d (D.sl false 5 l)], [] => ⟨List Row × Bool, o l, fun r => ([[D.sl true 1 r.fst], [D.bool r.snd]], [])⟩
  | a, c => q a c
theorem P.spec_l6Starts_ok {o : List Row → Option (List Row × Bool)} {q : List V → List Cell → Res (List Row × List Cell)} (h : H.spec_l6Starts o) (hq : FnOk X0 53 q) : FnOk X0 53 (P.spec_l6Starts o q) := by
  intro a c r hr
  unfold P.spec_l6Starts at hr
  split at hr
  · obtain ⟨x, hx, rfl⟩ := Res.val_some hr
    exact h _ x hx
  · exact hq _ _ _ hr
noncomputable def M.spec_l6Starts_l7_C {R : Type} (l : List Row) (i : Int) (x' : List Row) (s : Int × Int) (kn : Int × Int → Option R) (ke : (Unit) ⊕ (Int × Int × Bool) → Option R) : Option R := match s with
  | (at', k') =>
    bif decide (k' ≥ 0) then
     ((idx l i).bind fun row269 =>
      ((cSl 1 row269 4).bind fun rows270 =>
       ((idx rows270 k').bind fun row271 =>
        ((cInt IntKind.i64 row271 0).bind fun n272 =>
         (bif n272 != IntKind.i64.wrap (at' - 1) then (ke (.inl ())) else
          (bif at' == 0 then (ke (.inl ())) else
           ((idx x' (IntKind.i64.wrap (at' - 1))).bind fun row273 =>
            ((x'[(IntKind.i64.wrap (at' - 1)).toNat]?).bind fun row274 => ((cInt IntKind.i64 row274 0).bind fun n275 => (kn ((n275, IntKind.i64.wrap (k' - 1))))))))))))) else (ke (.inr ((at', k', decide (k' ≥ 0)))))
noncomputable def M.spec_l6Starts_l7_b (l : List Row) (i : Int) (x' : List Row) (s : Int × Int) : Option ((Int × Int) ⊕ ((Unit) ⊕ (Int × Int × Bool))) := M.spec_l6Starts_l7_C l i x' s (fun s => some (.inl s)) (fun t => some (.inr t))
noncomputable def M.spec_l6Starts_l7 (l : List Row) (i : Int) (x' : List Row) (s : Int × Int) : Option ((Unit) ⊕ (Int × Int × Bool)) := loopM (M.spec_l6Starts_l7_b l i x') s
theorem M.spec_l6Starts_l7_n {R : Type} (l : List Row) (i : Int) (x' : List Row) (s : Int × Int) (kn : Int × Int → Option R) (ke : (Unit) ⊕ (Int × Int × Bool) → Option R) : M.spec_l6Starts_l7_C l i x' s kn ke = (M.spec_l6Starts_l7_b l i x' s).bind fun r => match r with | .inl s => kn s | .inr t => ke t := by
  obtain ⟨at', k'⟩ := s
  all_goals
    simp only [M.spec_l6Starts_l7_b, M.spec_l6Starts_l7_C, bif_bind, bind_bind, some_bind, none_bind, sumE_bind, optE_bind, letE_bind]
def A.spec_l6Starts_l7 (l : List Row) (i : Int) (x' : List Row) : Alt (Ex × St) := .sum (.leaf (Unit) (fun t => (Ex.ret, { tm := [(2, V.own 300000 0), (3, V.d (D.bool false))], mem := [(300000, Cell.arr false true 0 1 [])] }))) (.leaf (Int × Int × Bool) (fun t => (Ex.exit 2, { tm := [(0, V.d (D.sl false 5 l)), (4, V.own 300000 0), (5, V.d (D.int IntKind.i64 i)), (6, V.d (D.int IntKind.i64 t.fst)), (7, V.d (D.int IntKind.i64 t.snd.fst)), (24, V.d (D.bool t.snd.snd))], mem := [(300000, Cell.arr false true 0 1 x')] })))
def T.spec_l6Starts_l7 (l : List Row) (i : Int) (x' : List Row) (s : Int × Int) : St := match s with
  | (at', k') => { tm := [(0, V.d (D.sl false 5 l)), (4, V.own 300000 0), (5, V.d (D.int IntKind.i64 i)), (6, V.d (D.int IntKind.i64 at')), (7, V.d (D.int IntKind.i64 k'))], mem := [(300000, Cell.arr false true 0 1 x')] }
noncomputable def K.spec_l6Starts_l7 : KonC := knil
noncomputable def L.spec_l6Starts_l7 : LoopC := lnil
theorem E.spec_l6Starts_l7 {R : Type} (l : List Row) (i : Int) (x' : List Row) (s : Int × Int) (k : Ex → St → Option R) : denC X0 (K.spec_l6Starts_l7) (L.spec_l6Starts_l7) 53 (loopCode X0.P 53 7) (T.spec_l6Starts_l7 l i x' s) k = M.spec_l6Starts_l7_C l i x' s (fun s => k .normal (T.spec_l6Starts_l7 l i x' s)) (fun t => (A.spec_l6Starts_l7 l i x').go t fun r => k r.1 r.2) := by
  obtain ⟨at', k'⟩ := s
  all_goals kernel_rfl
theorem LC.spec_l6Starts_l7 : loops (loopCode X0.P 53 7) = [] := by kernel_rfl
noncomputable def PL.spec_l6Starts_l7 (S : St) : ResA (Ex × St) := match S with
  | { tm := [(0, V.d (D.sl false 5 l)), (4, V.own 300000 0), (5, V.d (D.int IntKind.i64 i)), (6, V.d (D.int IntKind.i64 at')), (7, V.d (D.int IntKind.i64 k'))], mem := [(300000, Cell.arr false true 0 1 x')] } => ⟨A.spec_l6Starts_l7 l i x', M.spec_l6Starts_l7 l i x' ((at', k'))⟩
  | _ => .none
theorem C.spec_l6Starts_l7 : LpOk X0 53 7 (loopCode X0.P 53 7) (PL.spec_l6Starts_l7) := by
  refine ⟨by kernel_rfl, fun S r hr => ?_⟩
  unfold PL.spec_l6Starts_l7 at hr
  split at hr
  · obtain ⟨x, hx, rfl⟩ := ResA.val_some hr
    exact lp_sound (K := K.spec_l6Starts_l7) (L := L.spec_l6Starts_l7) (b := M.spec_l6Starts_l7_b _ _ _) (tm := T.spec_l6Starts_l7 _ _ _) (tx := (A.spec_l6Starts_l7 _ _ _).enc) knil_ok (by rw [LC.spec_l6Starts_l7]; exact LOk.nil) (fun s => by rw [E.spec_l6Starts_l7, M.spec_l6Starts_l7_n]; congr 1; funext r; cases r <;> first | rfl | exact Alt.go_eq _ _ _) (by intro t; rcases t with t | t <;> first | (intro h; cases h) | (intro h; cases h)) hx (s := (_, _))
  · cases hr
noncomputable def M.spec_l6Starts_l3_C {R : Type} (l : List Row) (s : Int × List Row) (kn : Int × List Row → Option R) (ke : (Unit) ⊕ (Int × Bool × List Row) → Option R) : Option R := match s with
  | (i, x') =>
    bif decide (i < (↑l.length : Int)) then
     ((idx l i).bind fun row267 =>
      ((cSl 1 row267 4).bind fun rows268 =>
       ((M.spec_l6Starts_l7 l i x' ((i, IntKind.i64.wrap ((↑rows268.length : Int) - 1)))).bind fun u280 =>
       sumE u280 (fun t276 => (ke (.inl ()))) fun u281 =>
        letE u281 fun t277 =>
         (bif ((x'.length + [[D.int IntKind.i64 t277.fst]].length) * 8).ble 140737488355328 then
          (bif (x'.length + [[D.int IntKind.i64 t277.fst]].length).ble 140737488355328 then (kn ((IntKind.i64.wrap (i + 1), x' ++ [[D.int IntKind.i64 t277.fst]]))) else none) else none)))) else (ke (.inr ((i, decide (i < (↑l.length : Int)), x'))))
noncomputable def M.spec_l6Starts_l3_b (l : List Row) (s : Int × List Row) : Option ((Int × List Row) ⊕ ((Unit) ⊕ (Int × Bool × List Row))) := M.spec_l6Starts_l3_C l s (fun s => some (.inl s)) (fun t => some (.inr t))
noncomputable def M.spec_l6Starts_l3 (l : List Row) (s : Int × List Row) : Option ((Unit) ⊕ (Int × Bool × List Row)) := loopM (M.spec_l6Starts_l3_b l) s
theorem M.spec_l6Starts_l3_n {R : Type} (l : List Row) (s : Int × List Row) (kn : Int × List Row → Option R) (ke : (Unit) ⊕ (Int × Bool × List Row) → Option R) : M.spec_l6Starts_l3_C l s kn ke = (M.spec_l6Starts_l3_b l s).bind fun r => match r with | .inl s => kn s | .inr t => ke t := by
  obtain ⟨i, x'⟩ := s
  all_goals
    simp only [M.spec_l6Starts_l3_b, M.spec_l6Starts_l3_C, bif_bind, bind_bind, some_bind, none_bind, sumE_bind, optE_bind, letE_bind]
def A.spec_l6Starts_l3 (l : List Row) : Alt (Ex × St) := .sum (.leaf (Unit) (fun t => (Ex.ret, { tm := [(2, V.own 300000 0), (3, V.d (D.bool false))], mem := [(300000, Cell.arr false true 0 1 [])] }))) (.leaf (Int × Bool × List Row) (fun t => (Ex.exit 0, { tm := [(0, V.d (D.sl false 5 l)), (4, V.own 300000 0), (5, V.d (D.int IntKind.i64 t.fst)), (12, V.d (D.bool t.snd.fst))], mem := [(300000, Cell.arr false true 0 1 t.snd.snd)] })))
def T.spec_l6Starts_l3 (l : List Row) (s : Int × List Row) : St := match s with
  | (i, x') => { tm := [(0, V.d (D.sl false 5 l)), (4, V.own 300000 0), (5, V.d (D.int IntKind.i64 i))], mem := [(300000, Cell.arr false true 0 1 x')] }
noncomputable def K.spec_l6Starts_l3 : KonC := knil
noncomputable def L.spec_l6Starts_l3 : LoopC := (lcons 7 (PL.spec_l6Starts_l7) lnil)
theorem E.spec_l6Starts_l3 {R : Type} (l : List Row) (s : Int × List Row) (k : Ex → St → Option R) : denC X0 (K.spec_l6Starts_l3) (L.spec_l6Starts_l3) 53 (loopCode X0.P 53 3) (T.spec_l6Starts_l3 l s) k = M.spec_l6Starts_l3_C l s (fun s => k .normal (T.spec_l6Starts_l3 l s)) (fun t => (A.spec_l6Starts_l3 l).go t fun r => k r.1 r.2) := by
  obtain ⟨i, x'⟩ := s
  all_goals kernel_rfl
theorem LC.spec_l6Starts_l3 : loops (loopCode X0.P 53 3) = [loopCode X0.P 53 7] := by kernel_rfl
noncomputable def PL.spec_l6Starts_l3 (S : St) : ResA (Ex × St) := match S with
  | { tm := [(0, V.d (D.sl false 5 l)), (4, V.own 300000 0), (5, V.d (D.int IntKind.i64 i))], mem := [(300000, Cell.arr false true 0 1 x')] } => ⟨A.spec_l6Starts_l3 l, M.spec_l6Starts_l3 l ((i, x'))⟩
  | _ => .none
theorem C.spec_l6Starts_l3 : LpOk X0 53 3 (loopCode X0.P 53 3) (PL.spec_l6Starts_l3) := by
  refine ⟨by kernel_rfl, fun S r hr => ?_⟩
  unfold PL.spec_l6Starts_l3 at hr
  split at hr
  · obtain ⟨x, hx, rfl⟩ := ResA.val_some hr
    exact lp_sound (K := K.spec_l6Starts_l3) (L := L.spec_l6Starts_l3) (b := M.spec_l6Starts_l3_b _) (tm := T.spec_l6Starts_l3 _) (tx := (A.spec_l6Starts_l3 _).enc) knil_ok (by rw [LC.spec_l6Starts_l3]; exact (LOk.cons (LpOk.at (C.spec_l6Starts_l7) (fun _ => rfl)) LOk.nil)) (fun s => by rw [E.spec_l6Starts_l3, M.spec_l6Starts_l3_n]; congr 1; funext r; cases r <;> first | rfl | exact Alt.go_eq _ _ _) (by intro t; rcases t with t | t <;> first | (intro h; cases h) | (intro h; cases h)) hx (s := (_, _))
  · cases hr
noncomputable def M.spec_l6Starts_C {R : Type} (l : List Row) (k : List Row × Bool → Option R) : Option R :=
  (M.spec_l6Starts_l3 l ((0, []))).bind fun u282 =>
  sumE u282 (fun t278 => (k (([], false)))) fun u283 =>
   letE u283 fun t279 => (bif flatRows t279.snd.snd then (k ((t279.snd.snd, true))) else none)
noncomputable def M.spec_l6Starts (l : List Row) : Option (List Row × Bool) := M.spec_l6Starts_C l some
theorem M.spec_l6Starts_n {R : Type} (l : List Row) (k : List Row × Bool → Option R) : M.spec_l6Starts_C l k = (M.spec_l6Starts_C l some).bind k := by
  simp only [M.spec_l6Starts_C, bif_bind, bind_bind, some_bind, none_bind, sumE_bind, optE_bind, letE_bind]
noncomputable def K.spec_l6Starts : KonC := knil
noncomputable def L.spec_l6Starts : LoopC := (lcons 3 (PL.spec_l6Starts_l3) lnil)
theorem E.spec_l6Starts {R : Type} (l : List Row) (k : List Row → List Cell → Option R) : bodyC X0 (K.spec_l6Starts) (L.spec_l6Starts) 53 [V.d (D.sl false 5 l)] [] k = M.spec_l6Starts_C l (fun r => k [[D.sl true 1 r.fst], [D.bool r.snd]] []) := by kernel_rfl
theorem LC.spec_l6Starts : loops (codeOf X0.P 53) = [loopCode X0.P 53 3] := by kernel_rfl
theorem C.spec_l6Starts : H.spec_l6Starts (M.spec_l6Starts) := by
  intro l r h
  exact fn_sound (enc := fun r => ([[D.sl true 1 r.fst], [D.bool r.snd]], [])) (K := K.spec_l6Starts) (L := L.spec_l6Starts) (by kernel_rfl) knil_ok (by rw [LC.spec_l6Starts]; exact (LOk.cons (LpOk.at (C.spec_l6Starts_l3) (fun _ => rfl)) LOk.nil)) (by rw [E.spec_l6Starts, M.spec_l6Starts_n] <;> rfl) h

/-! spec_ShapeOk -/
def H.spec_ShapeOk (o : List Row → Option (Bool)) : Prop := ∀ (l : List Row) (r : Bool), o l = some r → call X0 44 [V.d (D.sl false 5 l)] [] = some ([[D.bool r]], [])
def P.spec_ShapeOk (o : List Row → Option (Bool)) (q : List V → List Cell → Res (List Row × List Cell)) (a : List V) (c : List Cell) : Res (List Row × List Cell) := match a, c with
  | [V.d (D.sl false 5 l)], [] => ⟨Bool, o l, fun r => ([[D.bool r]], [])⟩
  | a, c => q a c
theorem P.spec_ShapeOk_ok {o : List Row → Option (Bool)} {q : List V → List Cell → Res (List Row × List Cell)} (h : H.spec_ShapeOk o) (hq : FnOk X0 44 q) : FnOk X0 44 (P.spec_ShapeOk o q) := by
  intro a c r hr
  unfold P.spec_ShapeOk at hr
  split at hr
  · obtain ⟨x, hx, rfl⟩ := Res.val_some hr
    exact h _ x hx
  · exact hq _ _ _ hr
noncomputable def M.spec_ShapeOk_C {R : Type} (l : List Row) (k : Bool → Option R) : Option R :=
  (M.spec_l1In ((↑l.length : Int)) 1 400).bind fun r266 =>
   (bif !r266 then (k false) else
    ((M.spec_l6Starts l).bind fun r284 =>
     (bif r284.snd then
      ((idx r284.fst (IntKind.i64.wrap ((↑l.length : Int) - 1))).bind fun row285 =>
       ((r284.fst[(IntKind.i64.wrap ((↑l.length : Int) - 1)).toNat]?).bind fun row286 => ((cInt IntKind.i64 row286 0).bind fun n287 => (k (n287 == 0))))) else (k false))))
noncomputable def M.spec_ShapeOk (l : List Row) : Option (Bool) := M.spec_ShapeOk_C l some
theorem M.spec_ShapeOk_n {R : Type} (l : List Row) (k : Bool → Option R) : M.spec_ShapeOk_C l k = (M.spec_ShapeOk_C l some).bind k := by
  simp only [M.spec_ShapeOk_C, bif_bind, bind_bind, some_bind, none_bind, sumE_bind, optE_bind, letE_bind]
noncomputable def K.spec_ShapeOk : KonC := (kcons 34 (P.spec_l1In M.spec_l1In pnil) (kcons 53 (P.spec_l6Starts M.spec_l6Starts pnil) knil))
noncomputable def L.spec_ShapeOk : LoopC := lnil
theorem E.spec_ShapeOk {R : Type} (l : List Row) (k : List Row → List Cell → Option R) : bodyC X0 (K.spec_ShapeOk) (L.spec_ShapeOk) 44 [V.d (D.sl false 5 l)] [] k = M.spec_ShapeOk_C l (fun r => k [[D.bool r]] []) := by kernel_rfl
theorem LC.spec_ShapeOk : loops (codeOf X0.P 44) = [] := by kernel_rfl
theorem C.spec_ShapeOk : H.spec_ShapeOk (M.spec_ShapeOk) := by
  intro l r h
  exact fn_sound (enc := fun r => ([[D.bool r]], [])) (K := K.spec_ShapeOk) (L := L.spec_ShapeOk) (by kernel_rfl) (kcons_ok (P.spec_l1In_ok C.spec_l1In pnil_ok) (kcons_ok (P.spec_l6Starts_ok C.spec_l6Starts pnil_ok) knil_ok)) (by rw [LC.spec_ShapeOk]; exact LOk.nil) (by rw [E.spec_ShapeOk, M.spec_ShapeOk_n] <;> rfl) h

/-! spec_NodeBy -/
def H.spec_NodeBy (o : List Row → List Row → Option (Int)) : Prop := ∀ (l : List Row) (path : List Row) (r : Int), o l path = some r → call X0 23 [V.d (D.sl false 5 l), V.d (D.sl false 1 path)] [] = some ([[D.int IntKind.i64 r]], [])
def P.spec_NodeBy (o : List Row → List Row → Option (Int)) (q : List V → List Cell → Res (List Row × List Cell)) (a : List V) (c : List Cell) : Res (List Row × List Cell) := match a, c with
  | [V.d (D.sl false 5 l), V.d (D.sl false 1 path)], [] => ⟨Int, o l path, fun r => ([[D.int IntKind.i64 r]], [])⟩
  | a, c => q a c
theorem P.spec_NodeBy_ok {o : List Row → List Row → Option (Int)} {q : List V → List Cell → Res (List Row × List Cell)} (h : H.spec_NodeBy o) (hq : FnOk X0 23 q) : FnOk X0 23 (P.spec_NodeBy o q) := by
  intro a c r hr
  unfold P.spec_NodeBy at hr
  split at hr
  · obtain ⟨x, hx, rfl⟩ := Res.val_some hr
    exact h _ _ x hx
  · exact hq _ _ _ hr
noncomputable def M.spec_NodeBy_l5_C {R : Type} (l : List Row) (path : List Row) (s : Int × Int) (kn : Int × Int → Option R) (ke : (Unit) ⊕ (Int × Int × Bool) → Option R) : Option R := match s with
  | (i, k') =>
    bif decide (k' < (↑path.length : Int)) then
     ((idx path k').bind fun row289 =>
      ((cInt IntKind.i64 row289 0).bind fun n290 =>
       ((idx l i).bind fun row291 =>
        ((cSl 1 row291 4).bind fun rows292 =>
         ((M.spec_l1In n290 0 (IntKind.i64.wrap ((↑rows292.length : Int) - 1))).bind fun r293 =>
          (bif !r293 then (ke (.inl ())) else
           ((idx l i).bind fun row294 =>
            ((cSl 1 row294 4).bind fun rows295 =>
             ((idx path k').bind fun row296 =>
              ((cInt IntKind.i64 row296 0).bind fun n297 =>
               ((idx rows295 n297).bind fun row298 => ((cInt IntKind.i64 row298 0).bind fun n299 => (kn ((n299, IntKind.i64.wrap (k' + 1)))))))))))))))) else (ke (.inr ((i, k', decide (k' < (↑path.length : Int))))))
noncomputable def M.spec_NodeBy_l5_b (l : List Row) (path : List Row) (s : Int × Int) : Option ((Int × Int) ⊕ ((Unit) ⊕ (Int × Int × Bool))) := M.spec_NodeBy_l5_C l path s (fun s => some (.inl s)) (fun t => some (.inr t))
noncomputable def M.spec_NodeBy_l5 (l : List Row) (path : List Row) (s : Int × Int) : Option ((Unit) ⊕ (Int × Int × Bool)) := loopM (M.spec_NodeBy_l5_b l path) s
theorem M.spec_NodeBy_l5_n {R : Type} (l : List Row) (path : List Row) (s : Int × Int) (kn : Int × Int → Option R) (ke : (Unit) ⊕ (Int × Int × Bool) → Option R) : M.spec_NodeBy_l5_C l path s kn ke = (M.spec_NodeBy_l5_b l path s).bind fun r => match r with | .inl s => kn s | .inr t => ke t := by
  obtain ⟨i, k'⟩ := s
  all_goals
    simp only [M.spec_NodeBy_l5_b, M.spec_NodeBy_l5_C, bif_bind, bind_bind, some_bind, none_bind, sumE_bind, optE_bind, letE_bind]
def A.spec_NodeBy_l5 (l : List Row) (path : List Row) : Alt (Ex × St) := .sum (.leaf (Unit) (fun t => (Ex.ret, { tm := [(4, V.d (D.int IntKind.i64 (-1)))], mem := [] }))) (.leaf (Int × Int × Bool) (fun t => (Ex.exit 0, { tm := [(0, V.d (D.sl false 5 l)), (1, V.d (D.sl false 1 path)), (5, V.d (D.int IntKind.i64 t.fst)), (6, V.d (D.int IntKind.i64 t.snd.fst)), (16, V.d (D.bool t.snd.snd))], mem := [] })))
def T.spec_NodeBy_l5 (l : List Row) (path : List Row) (s : Int × Int) : St := match s with
  | (i, k') => { tm := [(0, V.d (D.sl false 5 l)), (1, V.d (D.sl false 1 path)), (5, V.d (D.int IntKind.i64 i)), (6, V.d (D.int IntKind.i64 k'))], mem := [] }
noncomputable def K.spec_NodeBy_l5 : KonC := (kcons 34 (P.spec_l1In M.spec_l1In pnil) knil)
noncomputable def L.spec_NodeBy_l5 : LoopC := lnil
theorem E.spec_NodeBy_l5 {R : Type} (l : List Row) (path : List Row) (s : Int × Int) (k : Ex → St → Option R) : denC X0 (K.spec_NodeBy_l5) (L.spec_NodeBy_l5) 23 (loopCode X0.P 23 5) (T.spec_NodeBy_l5 l path s) k = M.spec_NodeBy_l5_C l path s (fun s => k .normal (T.spec_NodeBy_l5 l path s)) (fun t => (A.spec_NodeBy_l5 l path).go t fun r => k r.1 r.2) := by
  obtain ⟨i, k'⟩ := s
  all_goals kernel_rfl
theorem LC.spec_NodeBy_l5 : loops (loopCode X0.P 23 5) = [] := by kernel_rfl
noncomputable def PL.spec_NodeBy_l5 (S : St) : ResA (Ex × St) := match S with
  | { tm := [(0, V.d (D.sl false 5 l)), (1, V.d (D.sl false 1 path)), (5, V.d (D.int IntKind.i64 i)), (6, V.d (D.int IntKind.i64 k'))], mem := [] } => ⟨A.spec_NodeBy_l5 l path, M.spec_NodeBy_l5 l path ((i, k'))⟩
  | _ => .none
theorem C.spec_NodeBy_l5 : LpOk X0 23 5 (loopCode X0.P 23 5) (PL.spec_NodeBy_l5) := by
  refine ⟨by kernel_rfl, fun S r hr => ?_⟩
  unfold PL.spec_NodeBy_l5 at hr
  split at hr
  · obtain ⟨x, hx, rfl⟩ := ResA.val_some hr
    exact lp_sound (K := K.spec_NodeBy_l5) (L := L.spec_NodeBy_l5) (b := M.spec_NodeBy_l5_b _ _) (tm := T.spec_NodeBy_l5 _ _) (tx := (A.spec_NodeBy_l5 _ _).enc) (kcons_ok (P.spec_l1In_ok C.spec_l1In pnil_ok) knil_ok) (by rw [LC.spec_NodeBy_l5]; exact LOk.nil) (fun s => by rw [E.spec_NodeBy_l5, M.spec_NodeBy_l5_n]; congr 1; funext r; cases r <;> first | rfl | exact Alt.go_eq _ _ _) (by intro t; rcases t with t | t <;> first | (intro h; cases h) | (intro h; cases h)) hx (s := (_, _))
  · cases hr
noncomputable def M.spec_NodeBy_C {R : Type} (l : List Row) (path : List Row) (k : Int → Option R) : Option R :=
  (M.spec_ShapeOk l).bind fun r288 =>
   (bif !r288 then (k (-1)) else
    ((M.spec_NodeBy_l5 l path ((IntKind.i64.wrap ((↑l.length : Int) - 1), 0))).bind fun u302 =>
    sumE u302 (fun t300 => (k (-1))) fun u303 =>
     letE u303 fun t301 => (k t301.fst)))
noncomputable def M.spec_NodeBy (l : List Row) (path : List Row) : Option (Int) := M.spec_NodeBy_C l path some
theorem M.spec_NodeBy_n {R : Type} (l : List Row) (path : List Row) (k : Int → Option R) : M.spec_NodeBy_C l path k = (M.spec_NodeBy_C l path some).bind k := by
  simp only [M.spec_NodeBy_C, bif_bind, bind_bind, some_bind, none_bind, sumE_bind, optE_bind, letE_bind]
noncomputable def K.spec_NodeBy : KonC := (kcons 44 (P.spec_ShapeOk M.spec_ShapeOk pnil) knil)
noncomputable def L.spec_NodeBy : LoopC := (lcons 5 (PL.spec_NodeBy_l5) lnil)
theorem E.spec_NodeBy {R : Type} (l : List Row) (path : List Row) (k : List Row → List Cell → Option R) : bodyC X0 (K.spec_NodeBy) (L.spec_NodeBy) 23 [V.d (D.sl false 5 l), V.d (D.sl false 1 path)] [] k = M.spec_NodeBy_C l path (fun r => k [[D.int IntKind.i64 r]] []) := by kernel_rfl
theorem LC.spec_NodeBy : loops (codeOf X0.P 23) = [loopCode X0.P 23 5] := by kernel_rfl
theorem C.spec_NodeBy : H.spec_NodeBy (M.spec_NodeBy) := by
  intro l path r h
  exact fn_sound (enc := fun r => ([[D.int IntKind.i64 r]], [])) (K := K.spec_NodeBy) (L := L.spec_NodeBy) (by kernel_rfl) (kcons_ok (P.spec_ShapeOk_ok C.spec_ShapeOk pnil_ok) knil_ok) (by rw [LC.spec_NodeBy]; exact (LOk.cons (LpOk.at (C.spec_NodeBy_l5) (fun _ => rfl)) LOk.nil)) (by rw [E.spec_NodeBy, M.spec_NodeBy_n] <;> rfl) h

/-! impl_startsOf (a primitive) -/
def H.impl_startsOf (o : List Row → Option (List Row × Bool)) : Prop := ∀ (l : List Row) (r : List Row × Bool), o l = some r → call X0 54 [V.d (D.sl false 5 l)] [] = some ([[D.sl true 1 r.fst], [D.bool r.snd]], [])
def P.impl_startsOf (o : List Row → Option (List Row × Bool)) (q : List V → List Cell → Res (List Row × List Cell)) (a : List V) (c : List Cell) : Res (List Row × List Cell) := match a, c with
  | [V.d (D.sl false 5 l)], [] => ⟨List Row × Bool, o l, fun r => ([[D.sl true 1 r.fst], [D.bool r.snd]], [])⟩
  | a, c => q a c
theorem P.impl_startsOf_ok {o : List Row → Option (List Row × Bool)} {q : List V → List Cell → Res (List Row × List Cell)} (h : H.impl_startsOf o) (hq : FnOk X0 54 q) : FnOk X0 54 (P.impl_startsOf o q) := by
  intro a c r hr
  unfold P.impl_startsOf at hr
  split at hr
  · obtain ⟨x, hx, rfl⟩ := Res.val_some hr
    exact h _ x hx
  · exact hq _ _ _ hr
theorem C.impl_startsOf : H.impl_startsOf M.impl_startsOf := fun l r h => call_of_prim (p := Prim.impl_startsOf) (by kernel_rfl) (by show Option.map _ (M.impl_startsOf l) = _; rw [h]; rfl)

/-! impl_ShapeOk -/
def H.impl_ShapeOk (o : List Row → Option (Bool)) : Prop := ∀ (l : List Row) (r : Bool), o l = some r → call X0 45 [V.d (D.sl false 5 l)] [] = some ([[D.bool r]], [])
def P.impl_ShapeOk (o : List Row → Option (Bool)) (q : List V → List Cell → Res (List Row × List Cell)) (a : List V) (c : List Cell) : Res (List Row × List Cell) := match a, c with
  | [V.d (D.sl false 5 l)], [] => ⟨Bool, o l, fun r => ([[D.bool r]], [])⟩
  | a, c => q a c
theorem P.impl_ShapeOk_ok {o : List Row → Option (Bool)} {q : List V → List Cell → Res (List Row × List Cell)} (h : H.impl_ShapeOk o) (hq : FnOk X0 45 q) : FnOk X0 45 (P.impl_ShapeOk o q) := by
  intro a c r hr
  unfold P.impl_ShapeOk at hr
  split at hr
  · obtain ⟨x, hx, rfl⟩ := Res.val_some hr
    exact h _ x hx
  · exact hq _ _ _ hr
noncomputable def M.impl_ShapeOk_C {R : Type} (l : List Row) (k : Bool → Option R) : Option R :=
  (M.impl_startsOf l).bind fun r307 => (k r307.snd)
noncomputable def M.impl_ShapeOk (l : List Row) : Option (Bool) := M.impl_ShapeOk_C l some
theorem M.impl_ShapeOk_n {R : Type} (l : List Row) (k : Bool → Option R) : M.impl_ShapeOk_C l k = (M.impl_ShapeOk_C l some).bind k := by
  simp only [M.impl_ShapeOk_C, bif_bind, bind_bind, some_bind, none_bind, sumE_bind, optE_bind, letE_bind]
noncomputable def K.impl_ShapeOk : KonC := (kcons 54 (P.impl_startsOf M.impl_startsOf pnil) knil)
noncomputable def L.impl_ShapeOk : LoopC := lnil
theorem E.impl_ShapeOk {R : Type} (l : List Row) (k : List Row → List Cell → Option R) : bodyC X0 (K.impl_ShapeOk) (L.impl_ShapeOk) 45 [V.d (D.sl false 5 l)] [] k = M.impl_ShapeOk_C l (fun r => k [[D.bool r]] []) := by kernel_rfl
theorem LC.impl_ShapeOk : loops (codeOf X0.P 45) = [] := by kernel_rfl
theorem C.impl_ShapeOk : H.impl_ShapeOk (M.impl_ShapeOk) := by
  intro l r h
  exact fn_sound (enc := fun r => ([[D.bool r]], [])) (K := K.impl_ShapeOk) (L := L.impl_ShapeOk) (by kernel_rfl) (kcons_ok (P.impl_startsOf_ok C.impl_startsOf pnil_ok) knil_ok) (by rw [LC.impl_ShapeOk]; exact LOk.nil) (by rw [E.impl_ShapeOk, M.impl_ShapeOk_n] <;> rfl) h

/-! impl_NodeBy -/
def H.impl_NodeBy (o : List Row → List Row → Option (Int)) : Prop := ∀ (l : List Row) (path : List Row) (r : Int), o l path = some r → call X0 25 [V.d (D.sl false 5 l), V.d (D.sl false 1 path)] [] = some ([[D.int IntKind.i64 r]], [])
def P.impl_NodeBy (o : List Row → List Row → Option (Int)) (q : List V → List Cell → Res (List Row × List Cell)) (a : List V) (c : List Cell) : Res (List Row × List Cell) := match a, c with
  | [V.d (D.sl false 5 l), V.d (D.sl false 1 path)], [] => ⟨Int, o l path, fun r => ([[D.int IntKind.i64 r]], [])⟩
  | a, c => q a c
theorem P.impl_NodeBy_ok {o : List Row → List Row → Option (Int)} {q : List V → List Cell → Res (List Row × List Cell)} (h : H.impl_NodeBy o) (hq : FnOk X0 25 q) : FnOk X0 25 (P.impl_NodeBy o q) := by
  intro a c r hr
  unfold P.impl_NodeBy at hr
  split at hr
  · obtain ⟨x, hx, rfl⟩ := Res.val_some hr
    exact h _ _ x hx
  · exact hq _ _ _ hr
noncomputable def M.impl_NodeBy_l5_C {R : Type} (l : List Row) (v14 : List Row) (v15 : Int) (s : Int × Int) (kn : Int × Int → Option R) (ke : (Unit) ⊕ (Int × Int × Bool) → Option R) : Option R := match s with
  | (at', v16) =>
    bif decide (v16 < v15) then
     ((idx v14 v16).bind fun row309 =>
      ((cInt IntKind.i64 row309 0).bind fun n310 =>
       ((idx l at').bind fun row311 =>
        ((cSl 1 row311 4).bind fun rows312 =>
         ((M.impl_within n310 0 (IntKind.i64.wrap ((↑rows312.length : Int) - 1))).bind fun r313 =>
          (bif !r313 then (ke (.inl ())) else
           ((idx l at').bind fun row314 =>
            ((cSl 1 row314 4).bind fun rows315 =>
             ((idx rows315 n310).bind fun row316 => ((cInt IntKind.i64 row316 0).bind fun n317 => (kn ((n317, IntKind.i64.wrap (v16 + 1)))))))))))))) else (ke (.inr ((at', v16, decide (v16 < v15)))))
noncomputable def M.impl_NodeBy_l5_b (l : List Row) (v14 : List Row) (v15 : Int) (s : Int × Int) : Option ((Int × Int) ⊕ ((Unit) ⊕ (Int × Int × Bool))) := M.impl_NodeBy_l5_C l v14 v15 s (fun s => some (.inl s)) (fun t => some (.inr t))
noncomputable def M.impl_NodeBy_l5 (l : List Row) (v14 : List Row) (v15 : Int) (s : Int × Int) : Option ((Unit) ⊕ (Int × Int × Bool)) := loopM (M.impl_NodeBy_l5_b l v14 v15) s
theorem M.impl_NodeBy_l5_n {R : Type} (l : List Row) (v14 : List Row) (v15 : Int) (s : Int × Int) (kn : Int × Int → Option R) (ke : (Unit) ⊕ (Int × Int × Bool) → Option R) : M.impl_NodeBy_l5_C l v14 v15 s kn ke = (M.impl_NodeBy_l5_b l v14 v15 s).bind fun r => match r with | .inl s => kn s | .inr t => ke t := by
  obtain ⟨at', v16⟩ := s
  all_goals
    simp only [M.impl_NodeBy_l5_b, M.impl_NodeBy_l5_C, bif_bind, bind_bind, some_bind, none_bind, sumE_bind, optE_bind, letE_bind]
def A.impl_NodeBy_l5 (l : List Row) (v14 : List Row) (v15 : Int) : Alt (Ex × St) := .sum (.leaf (Unit) (fun t => (Ex.ret, { tm := [(4, V.d (D.int IntKind.i64 (-1)))], mem := [] }))) (.leaf (Int × Int × Bool) (fun t => (Ex.exit 0, { tm := [(0, V.d (D.sl false 5 l)), (5, V.d (D.int IntKind.i64 t.fst)), (14, V.d (D.sl false 1 v14)), (15, V.d (D.int IntKind.i64 v15)), (16, V.d (D.int IntKind.i64 t.snd.fst)), (17, V.d (D.bool t.snd.snd))], mem := [] })))
def T.impl_NodeBy_l5 (l : List Row) (v14 : List Row) (v15 : Int) (s : Int × Int) : St := match s with
  | (at', v16) => { tm := [(0, V.d (D.sl false 5 l)), (5, V.d (D.int IntKind.i64 at')), (14, V.d (D.sl false 1 v14)), (15, V.d (D.int IntKind.i64 v15)), (16, V.d (D.int IntKind.i64 v16))], mem := [] }
noncomputable def K.impl_NodeBy_l5 : KonC := (kcons 36 (P.impl_within M.impl_within pnil) knil)
noncomputable def L.impl_NodeBy_l5 : LoopC := lnil
theorem E.impl_NodeBy_l5 {R : Type} (l : List Row) (v14 : List Row) (v15 : Int) (s : Int × Int) (k : Ex → St → Option R) : denC X0 (K.impl_NodeBy_l5) (L.impl_NodeBy_l5) 25 (loopCode X0.P 25 5) (T.impl_NodeBy_l5 l v14 v15 s) k = M.impl_NodeBy_l5_C l v14 v15 s (fun s => k .normal (T.impl_NodeBy_l5 l v14 v15 s)) (fun t => (A.impl_NodeBy_l5 l v14 v15).go t fun r => k r.1 r.2) := by
  obtain ⟨at', v16⟩ := s
  all_goals kernel_rfl
theorem LC.impl_NodeBy_l5 : loops (loopCode X0.P 25 5) = [] := by kernel_rfl
noncomputable def PL.impl_NodeBy_l5 (S : St) : ResA (Ex × St) := match S with
  | { tm := [(0, V.d (D.sl false 5 l)), (5, V.d (D.int IntKind.i64 at')), (14, V.d (D.sl false 1 v14)), (15, V.d (D.int IntKind.i64 v15)), (16, V.d (D.int IntKind.i64 v16))], mem := [] } => ⟨A.impl_NodeBy_l5 l v14 v15, M.impl_NodeBy_l5 l v14 v15 ((at', v16))⟩
  | _ => .none
theorem C.impl_NodeBy_l5 : LpOk X0 25 5 (loopCode X0.P 25 5) (PL.impl_NodeBy_l5) := by
  refine ⟨by kernel_rfl, fun S r hr => ?_⟩
  unfold PL.impl_NodeBy_l5 at hr
  split at hr
  · obtain ⟨x, hx, rfl⟩ := ResA.val_some hr
    exact lp_sound (K := K.impl_NodeBy_l5) (L := L.impl_NodeBy_l5) (b := M.impl_NodeBy_l5_b _ _ _) (tm := T.impl_NodeBy_l5 _ _ _) (tx := (A.impl_NodeBy_l5 _ _ _).enc) (kcons_ok (P.impl_within_ok C.impl_within pnil_ok) knil_ok) (by rw [LC.impl_NodeBy_l5]; exact LOk.nil) (fun s => by rw [E.impl_NodeBy_l5, M.impl_NodeBy_l5_n]; congr 1; funext r; cases r <;> first | rfl | exact Alt.go_eq _ _ _) (by intro t; rcases t with t | t <;> first | (intro h; cases h) | (intro h; cases h)) hx (s := (_, _))
  · cases hr
noncomputable def M.impl_NodeBy_C {R : Type} (l : List Row) (path : List Row) (k : Int → Option R) : Option R :=
  (M.impl_ShapeOk l).bind fun r308 =>
   (bif !r308 then (k (-1)) else
    ((M.impl_NodeBy_l5 l path ((↑path.length : Int)) ((IntKind.i64.wrap ((↑l.length : Int) - 1), 0))).bind fun u320 =>
    sumE u320 (fun t318 => (k (-1))) fun u321 =>
     letE u321 fun t319 => (k t319.fst)))
noncomputable def M.impl_NodeBy (l : List Row) (path : List Row) : Option (Int) := M.impl_NodeBy_C l path some
theorem M.impl_NodeBy_n {R : Type} (l : List Row) (path : List Row) (k : Int → Option R) : M.impl_NodeBy_C l path k = (M.impl_NodeBy_C l path some).bind k := by
  simp only [M.impl_NodeBy_C, bif_bind, bind_bind, some_bind, none_bind, sumE_bind, optE_bind, letE_bind]
noncomputable def K.impl_NodeBy : KonC := (kcons 45 (P.impl_ShapeOk M.impl_ShapeOk pnil) knil)
noncomputable def L.impl_NodeBy : LoopC := (lcons 5 (PL.impl_NodeBy_l5) lnil)
theorem E.impl_NodeBy {R : Type} (l : List Row) (path : List Row) (k : List Row → List Cell → Option R) : bodyC X0 (K.impl_NodeBy) (L.impl_NodeBy) 25 [V.d (D.sl false 5 l), V.d (D.sl false 1 path)] [] k = M.impl_NodeBy_C l path (fun r => k [[D.int IntKind.i64 r]] []) := by kernel_rfl
theorem LC.impl_NodeBy : loops (codeOf X0.P 25) = [loopCode X0.P 25 5] := by kernel_rfl
theorem C.impl_NodeBy : H.impl_NodeBy (M.impl_NodeBy) := by
  intro l path r h
  exact fn_sound (enc := fun r => ([[D.int IntKind.i64 r]], [])) (K := K.impl_NodeBy) (L := L.impl_NodeBy) (by kernel_rfl) (kcons_ok (P.impl_ShapeOk_ok C.impl_ShapeOk pnil_ok) knil_ok) (by rw [LC.impl_NodeBy]; exact (LOk.cons (LpOk.at (C.impl_NodeBy_l5) (fun _ => rfl)) LOk.nil)) (by rw [E.impl_NodeBy, M.impl_NodeBy_n] <;> rfl) h

/-! laws_FnExactNodeBy -/
def H.laws_FnExactNodeBy (o : List Row → List Row → Option (Bool)) : Prop := ∀ (aL : List Row) (aPath : List Row) (r : Bool), o aL aPath = some r → call X0 5 [V.d (D.sl false 5 aL), V.d (D.sl false 1 aPath)] [] = some ([[D.bool r]], [])
def P.laws_FnExactNodeBy (o : List Row → List Row → Option (Bool)) (q : List V → List Cell → Res (List Row × List Cell)) (a : List V) (c : List Cell) : Res (List Row × List Cell) := match a, c with
  | [V.d (D.sl false 5 aL), V.d (D.sl false 1 aPath)], [] => ⟨Bool, o aL aPath, fun r => ([[D.bool r]], [])⟩
  | a, c => q a c
theorem P.laws_FnExactNodeBy_ok {o : List Row → List Row → Option (Bool)} {q : List V → List Cell → Res (List Row × List Cell)} (h : H.laws_FnExactNodeBy o) (hq : FnOk X0 5 q) : FnOk X0 5 (P.laws_FnExactNodeBy o q) := by
  intro a c r hr
  unfold P.laws_FnExactNodeBy at hr
  split at hr
  · obtain ⟨x, hx, rfl⟩ := Res.val_some hr
    exact h _ _ x hx
  · exact hq _ _ _ hr
noncomputable def M.laws_FnExactNodeBy_C {R : Type} (aL : List Row) (aPath : List Row) (k : Bool → Option R) : Option R :=
  bif decide ((↑aPath.length : Int) > 1048576) then (k true) else
   ((M.laws_szNodeS aL 1048576).bind fun r263 =>
    (bif decide (r263 < 0) then (k true) else
     ((M.laws_toNodeS aL).bind fun r264 =>
      ((M.laws_toIntS aPath).bind fun r265 =>
       ((M.spec_NodeBy (fzRows r264) r265).bind fun r304 =>
        ((M.laws_toNodeS aL).bind fun r305 =>
         ((M.laws_toIntS aPath).bind fun r306 =>
          ((M.impl_NodeBy (fzRows r305) r306).bind fun r322 =>
           (bif r322 != r304 then (k false) else
            ((M.laws_toNodeS aL).bind fun r323 =>
             ((M.laws_eqNodeS (fzRows r305) (fzRows r323)).bind fun r324 =>
              (bif !r324 then (k false) else
               ((M.laws_toIntS aPath).bind fun r325 => ((M.laws_eqIntS r306 r325).bind fun r326 => (bif !r326 then (k false) else (k true))))))))))))))))
noncomputable def M.laws_FnExactNodeBy (aL : List Row) (aPath : List Row) : Option (Bool) := M.laws_FnExactNodeBy_C aL aPath some
theorem M.laws_FnExactNodeBy_n {R : Type} (aL : List Row) (aPath : List Row) (k : Bool → Option R) : M.laws_FnExactNodeBy_C aL aPath k = (M.laws_FnExactNodeBy_C aL aPath some).bind k := by
  simp only [M.laws_FnExactNodeBy_C, bif_bind, bind_bind, some_bind, none_bind, sumE_bind, optE_bind, letE_bind]
noncomputable def K.laws_FnExactNodeBy : KonC := (kcons 9 (P.laws_szNodeS M.laws_szNodeS pnil) (kcons 11 (P.laws_toNodeS M.laws_toNodeS pnil) (kcons 24 (P.laws_toIntS M.laws_toIntS pnil) (kcons 23 (P.spec_NodeBy M.spec_NodeBy pnil) (kcons 25 (P.impl_NodeBy M.impl_NodeBy pnil) (kcons 13 (P.laws_eqNodeS M.laws_eqNodeS pnil) (kcons 18 (P.laws_eqIntS M.laws_eqIntS pnil) knil)))))))
noncomputable def L.laws_FnExactNodeBy : LoopC := lnil
theorem E.laws_FnExactNodeBy {R : Type} (aL : List Row) (aPath : List Row) (k : List Row → List Cell → Option R) : bodyC X0 (K.laws_FnExactNodeBy) (L.laws_FnExactNodeBy) 5 [V.d (D.sl false 5 aL), V.d (D.sl false 1 aPath)] [] k = M.laws_FnExactNodeBy_C aL aPath (fun r => k [[D.bool r]] []) := by kernel_rfl
theorem LC.laws_FnExactNodeBy : loops (codeOf X0.P 5) = [] := by kernel_rfl
theorem C.laws_FnExactNodeBy : H.laws_FnExactNodeBy (M.laws_FnExactNodeBy) := by
  intro aL aPath r h
  exact fn_sound (enc := fun r => ([[D.bool r]], [])) (K := K.laws_FnExactNodeBy) (L := L.laws_FnExactNodeBy) (by kernel_rfl) (kcons_ok (P.laws_szNodeS_ok C.laws_szNodeS pnil_ok) (kcons_ok (P.laws_toNodeS_ok C.laws_toNodeS pnil_ok) (kcons_ok (P.laws_toIntS_ok C.laws_toIntS pnil_ok) (kcons_ok (P.spec_NodeBy_ok C.spec_NodeBy pnil_ok) (kcons_ok (P.impl_NodeBy_ok C.impl_NodeBy pnil_ok) (kcons_ok (P.laws_eqNodeS_ok C.laws_eqNodeS pnil_ok) (kcons_ok (P.laws_eqIntS_ok C.laws_eqIntS pnil_ok) knil_ok))))))) (by rw [LC.laws_FnExactNodeBy]; exact LOk.nil) (by rw [E.laws_FnExactNodeBy, M.laws_FnExactNodeBy_n] <;> rfl) h

/-! spec_l44Pre -/
def H.spec_l44Pre (o : List Row → Int → Option (List Row)) : Prop := ∀ (l : List Row) (i : Int) (r : List Row), o l i = some r → call X0 46 [V.d (D.sl false 5 l), V.d (D.int IntKind.i64 i)] [] = some ([[D.sl true 1 r]], [])
def P.spec_l44Pre (o : List Row → Int → Option (List Row)) (q : List V → List Cell → Res (List Row × List Cell)) (a : List V) (c : List Cell) : Res (List Row × List Cell) := match a, c with
  | [V.d (D.sl false 5 l), V.d (D.int IntKind.i64 i)], [] => ⟨List Row, o l i, fun r => ([[D.sl true 1 r]], [])⟩
  | a, c => q a c
theorem P.spec_l44Pre_ok {o : List Row → Int → Option (List Row)} {q : List V → List Cell → Res (List Row × List Cell)} (h : H.spec_l44Pre o) (hq : FnOk X0 46 q) : FnOk X0 46 (P.spec_l44Pre o q) := by
  intro a c r hr
  unfold P.spec_l44Pre at hr
  split at hr
  · obtain ⟨x, hx, rfl⟩ := Res.val_some hr
    exact h _ _ x hx
  · exact hq _ _ _ hr
noncomputable def M.spec_l44Pre_l3_C {R : Type} (rec_spec_l44Pre : List Row → Int → Option (List Row)) (l : List Row) (i : Int) (s : Int × List Row) (kn : Int × List Row → Option R) (ke : Int × Bool × List Row → Option R) : Option R := match s with
  | (k', x') =>
    (idx l i).bind fun row330 =>
     ((cSl 1 row330 4).bind fun rows331 =>
      (bif decide (k' < (↑rows331.length : Int)) then
       ((idx l i).bind fun row332 =>
        ((cSl 1 row332 4).bind fun rows333 =>
         ((idx rows333 k').bind fun row334 =>
          ((cInt IntKind.i64 row334 0).bind fun n335 =>
           ((rec_spec_l44Pre l n335).bind fun r336 =>
            (bif ((x'.length + r336.length) * 8).ble 140737488355328 then
             (bif (x'.length + r336.length).ble 140737488355328 then (kn ((IntKind.i64.wrap (k' + 1), x' ++ r336))) else none) else none)))))) else (ke ((k', decide (k' < (↑rows331.length : Int)), x')))))
noncomputable def M.spec_l44Pre_l3_b (rec_spec_l44Pre : List Row → Int → Option (List Row)) (l : List Row) (i : Int) (s : Int × List Row) : Option ((Int × List Row) ⊕ (Int × Bool × List Row)) := M.spec_l44Pre_l3_C rec_spec_l44Pre l i s (fun s => some (.inl s)) (fun t => some (.inr t))
noncomputable def M.spec_l44Pre_l3 (rec_spec_l44Pre : List Row → Int → Option (List Row)) (l : List Row) (i : Int) (s : Int × List Row) : Option (Int × Bool × List Row) := loopM (M.spec_l44Pre_l3_b rec_spec_l44Pre l i) s
theorem M.spec_l44Pre_l3_n {R : Type} (rec_spec_l44Pre : List Row → Int → Option (List Row)) (l : List Row) (i : Int) (s : Int × List Row) (kn : Int × List Row → Option R) (ke : Int × Bool × List Row → Option R) : M.spec_l44Pre_l3_C rec_spec_l44Pre l i s kn ke = (M.spec_l44Pre_l3_b rec_spec_l44Pre l i s).bind fun r => match r with | .inl s => kn s | .inr t => ke t := by
  obtain ⟨k', x'⟩ := s
  all_goals
    simp only [M.spec_l44Pre_l3_b, M.spec_l44Pre_l3_C, bif_bind, bind_bind, some_bind, none_bind, sumE_bind, optE_bind, letE_bind]
def A.spec_l44Pre_l3 (l : List Row) (i : Int) : Alt (Ex × St) := .leaf (Int × Bool × List Row) (fun t => (Ex.exit 0, { tm := [(0, V.d (D.sl false 5 l)), (1, V.d (D.int IntKind.i64 i)), (5, V.own 300000 0), (6, V.d (D.int IntKind.i64 t.fst)), (16, V.d (D.bool t.snd.fst))], mem := [(300000, Cell.arr false true 0 1 t.snd.snd)] }))
def T.spec_l44Pre_l3 (l : List Row) (i : Int) (s : Int × List Row) : St := match s with
  | (k', x') => { tm := [(0, V.d (D.sl false 5 l)), (1, V.d (D.int IntKind.i64 i)), (5, V.own 300000 0), (6, V.d (D.int IntKind.i64 k'))], mem := [(300000, Cell.arr false true 0 1 x')] }
noncomputable def K.spec_l44Pre_l3 (rec_spec_l44Pre : List Row → Int → Option (List Row)) : KonC := (kcons 46 (P.spec_l44Pre rec_spec_l44Pre pnil) knil)
noncomputable def L.spec_l44Pre_l3 (rec_spec_l44Pre : List Row → Int → Option (List Row)) : LoopC := lnil
theorem E.spec_l44Pre_l3 {R : Type} (rec_spec_l44Pre : List Row → Int → Option (List Row)) (l : List Row) (i : Int) (s : Int × List Row) (k : Ex → St → Option R) : denC X0 (K.spec_l44Pre_l3 rec_spec_l44Pre) (L.spec_l44Pre_l3 rec_spec_l44Pre) 46 (loopCode X0.P 46 3) (T.spec_l44Pre_l3 l i s) k = M.spec_l44Pre_l3_C rec_spec_l44Pre l i s (fun s => k .normal (T.spec_l44Pre_l3 l i s)) (fun t => (A.spec_l44Pre_l3 l i).go t fun r => k r.1 r.2) := by
  obtain ⟨k', x'⟩ := s
  all_goals kernel_rfl
theorem LC.spec_l44Pre_l3 : loops (loopCode X0.P 46 3) = [] := by kernel_rfl
noncomputable def PL.spec_l44Pre_l3 (rec_spec_l44Pre : List Row → Int → Option (List Row)) (S : St) : ResA (Ex × St) := match S with
  | { tm := [(0, V.d (D.sl false 5 l)), (1, V.d (D.int IntKind.i64 i)), (5, V.own 300000 0), (6, V.d (D.int IntKind.i64 k'))], mem := [(300000, Cell.arr false true 0 1 x')] } => ⟨A.spec_l44Pre_l3 l i, M.spec_l44Pre_l3 rec_spec_l44Pre l i ((k', x'))⟩
  | _ => .none
theorem C.spec_l44Pre_l3 {rec_spec_l44Pre : List Row → Int → Option (List Row)} (h_spec_l44Pre : H.spec_l44Pre rec_spec_l44Pre) : LpOk X0 46 3 (loopCode X0.P 46 3) (PL.spec_l44Pre_l3 rec_spec_l44Pre) := by
  refine ⟨by kernel_rfl, fun S r hr => ?_⟩
  unfold PL.spec_l44Pre_l3 at hr
  split at hr
  · obtain ⟨x, hx, rfl⟩ := ResA.val_some hr
    exact lp_sound (K := K.spec_l44Pre_l3 rec_spec_l44Pre) (L := L.spec_l44Pre_l3 rec_spec_l44Pre) (b := M.spec_l44Pre_l3_b rec_spec_l44Pre _ _) (tm := T.spec_l44Pre_l3 _ _) (tx := (A.spec_l44Pre_l3 _ _).enc) (kcons_ok (P.spec_l44Pre_ok h_spec_l44Pre pnil_ok) knil_ok) (by rw [LC.spec_l44Pre_l3]; exact LOk.nil) (fun s => by rw [E.spec_l44Pre_l3, M.spec_l44Pre_l3_n]; congr 1; funext r; cases r <;> first | rfl | exact Alt.go_eq _ _ _) (by intro t; intro h; cases h) hx (s := (_, _))
  · cases hr
noncomputable def M.spec_l44Pre_C {R : Type} (rec_spec_l44Pre : List Row → Int → Option (List Row)) (l : List Row) (i : Int) (k : List Row → Option R) : Option R :=
  (M.spec_l44Pre_l3 rec_spec_l44Pre l i ((0, [[D.int IntKind.i64 i]]))).bind fun t337 => (bif flatRows t337.snd.snd then (k t337.snd.snd) else none)
noncomputable def M.spec_l44Pre_N : Nat → List Row → Int → Option (List Row)
  | 0 => fun _ _ => none
  | n + 1 => fun l i => M.spec_l44Pre_C (M.spec_l44Pre_N n) l i some
noncomputable def M.spec_l44Pre (l : List Row) (i : Int) : Option (List Row) := lim fun n => M.spec_l44Pre_N n l i
theorem M.spec_l44Pre_n {R : Type} (rec_spec_l44Pre : List Row → Int → Option (List Row)) (l : List Row) (i : Int) (k : List Row → Option R) : M.spec_l44Pre_C rec_spec_l44Pre l i k = (M.spec_l44Pre_C rec_spec_l44Pre l i some).bind k := by
  simp only [M.spec_l44Pre_C, bif_bind, bind_bind, some_bind, none_bind, sumE_bind, optE_bind, letE_bind]
noncomputable def K.spec_l44Pre (rec_spec_l44Pre : List Row → Int → Option (List Row)) : KonC := knil
noncomputable def L.spec_l44Pre (rec_spec_l44Pre : List Row → Int → Option (List Row)) : LoopC := (lcons 3 (PL.spec_l44Pre_l3 rec_spec_l44Pre) lnil)
theorem E.spec_l44Pre {R : Type} (rec_spec_l44Pre : List Row → Int → Option (List Row)) (l : List Row) (i : Int) (k : List Row → List Cell → Option R) : bodyC X0 (K.spec_l44Pre rec_spec_l44Pre) (L.spec_l44Pre rec_spec_l44Pre) 46 [V.d (D.sl false 5 l), V.d (D.int IntKind.i64 i)] [] k = M.spec_l44Pre_C rec_spec_l44Pre l i (fun r => k [[D.sl true 1 r]] []) := by kernel_rfl
theorem LC.spec_l44Pre : loops (codeOf X0.P 46) = [loopCode X0.P 46 3] := by kernel_rfl
theorem C.spec_l44Pre_1 {rec_spec_l44Pre : List Row → Int → Option (List Row)} (h_spec_l44Pre : H.spec_l44Pre rec_spec_l44Pre) : H.spec_l44Pre (fun l i => M.spec_l44Pre_C rec_spec_l44Pre l i some) := by
  intro l i r h
  exact fn_sound (enc := fun r => ([[D.sl true 1 r]], [])) (K := K.spec_l44Pre rec_spec_l44Pre) (L := L.spec_l44Pre rec_spec_l44Pre) (by kernel_rfl) knil_ok (by rw [LC.spec_l44Pre]; exact (LOk.cons (LpOk.at (C.spec_l44Pre_l3 h_spec_l44Pre) (fun _ => rfl)) LOk.nil)) (by rw [E.spec_l44Pre, M.spec_l44Pre_n] <;> rfl) h
theorem C.spec_l44Pre_N : ∀ n, H.spec_l44Pre (M.spec_l44Pre_N n)
  | 0 => by
    intro l i r h
    cases h
  | n + 1 => C.spec_l44Pre_1 (C.spec_l44Pre_N n)
theorem C.spec_l44Pre : H.spec_l44Pre (M.spec_l44Pre) := by
  intro l i r h
  obtain ⟨n, hn⟩ := lim_some h
  exact C.spec_l44Pre_N n _ _ r hn
theorem M.spec_l44Pre_of {n : Nat} {l : List Row} {i : Int} {r : List Row} (h : M.spec_l44Pre_N n l i = some r) : M.spec_l44Pre l i = some r := by
  refine lim_of h fun m y hy => ?_
  have h1 := C.spec_l44Pre_N n _ _ r h
  have h2 := C.spec_l44Pre_N m _ _ y hy
  rw [h1] at h2
  simp at h2
  (first | exact h2.symm | (simp [Prod.ext_iff, h2]))

/-! spec_Preorder -/
def H.spec_Preorder (o : List Row → Option (List Row)) : Prop := ∀ (l : List Row) (r : List Row), o l = some r → call X0 26 [V.d (D.sl false 5 l)] [] = some ([[D.sl true 1 r]], [])
def P.spec_Preorder (o : List Row → Option (List Row)) (q : List V → List Cell → Res (List Row × List Cell)) (a : List V) (c : List Cell) : Res (List Row × List Cell) := match a, c with
  | [V.d (D.sl false 5 l)], [] => ⟨List Row, o l, fun r => ([[D.sl true 1 r]], [])⟩
  | a, c => q a c
theorem P.spec_Preorder_ok {o : List Row → Option (List Row)} {q : List V → List Cell → Res (List Row × List Cell)} (h : H.spec_Preorder o) (hq : FnOk X0 26 q) : FnOk X0 26 (P.spec_Preorder o q) := by
  intro a c r hr
  unfold P.spec_Preorder at hr
  split at hr
  · obtain ⟨x, hx, rfl⟩ := Res.val_some hr
    exact h _ x hx
  · exact hq _ _ _ hr
noncomputable def M.spec_Preorder_C {R : Type} (l : List Row) (k : List Row → Option R) : Option R :=
  (M.spec_ShapeOk l).bind fun r329 =>
   (bif !r329 then (k []) else
    ((M.spec_l44Pre l (IntKind.i64.wrap ((↑l.length : Int) - 1))).bind fun r338 => (bif flatRows r338 then (k r338) else none)))
noncomputable def M.spec_Preorder (l : List Row) : Option (List Row) := M.spec_Preorder_C l some
theorem M.spec_Preorder_n {R : Type} (l : List Row) (k : List Row → Option R) : M.spec_Preorder_C l k = (M.spec_Preorder_C l some).bind k := by
  simp only [M.spec_Preorder_C, bif_bind, bind_bind, some_bind, none_bind, sumE_bind, optE_bind, letE_bind]
noncomputable def K.spec_Preorder : KonC := (kcons 44 (P.spec_ShapeOk M.spec_ShapeOk pnil) (kcons 46 (P.spec_l44Pre M.spec_l44Pre pnil) knil))
noncomputable def L.spec_Preorder : LoopC := lnil
theorem E.spec_Preorder {R : Type} (l : List Row) (k : List Row → List Cell → Option R) : bodyC X0 (K.spec_Preorder) (L.spec_Preorder) 26 [V.d (D.sl false 5 l)] [] k = M.spec_Preorder_C l (fun r => k [[D.sl true 1 r]] []) := by kernel_rfl
theorem LC.spec_Preorder : loops (codeOf X0.P 26) = [] := by kernel_rfl
theorem C.spec_Preorder : H.spec_Preorder (M.spec_Preorder) := by
  intro l r h
  exact fn_sound (enc := fun r => ([[D.sl true 1 r]], [])) (K := K.spec_Preorder) (L := L.spec_Preorder) (by kernel_rfl) (kcons_ok (P.spec_ShapeOk_ok C.spec_ShapeOk pnil_ok) (kcons_ok (P.spec_l44Pre_ok C.spec_l44Pre pnil_ok) knil_ok)) (by rw [LC.spec_Preorder]; exact LOk.nil) (by rw [E.spec_Preorder, M.spec_Preorder_n] <;> rfl) h

/-! impl_preorder -/
def H.impl_preorder (o : List Row → Int → List Row → Option (List Row)) : Prop := ∀ (l : List Row) (i : Int) (out' : List Row) (r : List Row), o l i out' = some r → call X0 47 [V.d (D.sl false 5 l), V.d (D.int IntKind.i64 i), V.d (D.sl true 1 out')] [] = some ([[D.sl true 1 r]], [])
def P.impl_preorder (o : List Row → Int → List Row → Option (List Row)) (q : List V → List Cell → Res (List Row × List Cell)) (a : List V) (c : List Cell) : Res (List Row × List Cell) := match a, c with
  | [V.d (D.sl false 5 l), V.d (D.int IntKind.i64 i), V.d (D.sl true 1 out')], [] => ⟨List Row, o l i out', fun r => ([[D.sl true 1 r]], [])⟩
  | a, c => q a c
theorem P.impl_preorder_ok {o : List Row → Int → List Row → Option (List Row)} {q : List V → List Cell → Res (List Row × List Cell)} (h : H.impl_preorder o) (hq : FnOk X0 47 q) : FnOk X0 47 (P.impl_preorder o q) := by
  intro a c r hr
  unfold P.impl_preorder at hr
  split at hr
  · obtain ⟨x, hx, rfl⟩ := Res.val_some hr
    exact h _ _ _ x hx
  · exact hq _ _ _ hr
noncomputable def M.impl_preorder_l3_C {R : Type} (rec_impl_preorder : List Row → Int → List Row → Option (List Row)) (l : List Row) (v17 : List Row) (v18 : Int) (s : Int × List Row) (kn : Int × List Row → Option R) (ke : Int × Bool × List Row → Option R) : Option R := match s with
  | (v19, x') =>
    bif decide (v19 < v18) then
     ((idx v17 v19).bind fun row344 =>
      ((cInt IntKind.i64 row344 0).bind fun n345 =>
       (bif flatRows x' then ((rec_impl_preorder l n345 x').bind fun r346 => (kn ((IntKind.i64.wrap (v19 + 1), r346)))) else none))) else (ke ((v19, decide (v19 < v18), x')))
noncomputable def M.impl_preorder_l3_b (rec_impl_preorder : List Row → Int → List Row → Option (List Row)) (l : List Row) (v17 : List Row) (v18 : Int) (s : Int × List Row) : Option ((Int × List Row) ⊕ (Int × Bool × List Row)) := M.impl_preorder_l3_C rec_impl_preorder l v17 v18 s (fun s => some (.inl s)) (fun t => some (.inr t))
noncomputable def M.impl_preorder_l3 (rec_impl_preorder : List Row → Int → List Row → Option (List Row)) (l : List Row) (v17 : List Row) (v18 : Int) (s : Int × List Row) : Option (Int × Bool × List Row) := loopM (M.impl_preorder_l3_b rec_impl_preorder l v17 v18) s
theorem M.impl_preorder_l3_n {R : Type} (rec_impl_preorder : List Row → Int → List Row → Option (List Row)) (l : List Row) (v17 : List Row) (v18 : Int) (s : Int × List Row) (kn : Int × List Row → Option R) (ke : Int × Bool × List Row → Option R) : M.impl_preorder_l3_C rec_impl_preorder l v17 v18 s kn ke = (M.impl_preorder_l3_b rec_impl_preorder l v17 v18 s).bind fun r => match r with | .inl s => kn s | .inr t => ke t := by
  obtain ⟨v19, x'⟩ := s
  all_goals
    simp only [M.impl_preorder_l3_b, M.impl_preorder_l3_C, bif_bind, bind_bind, some_bind, none_bind, sumE_bind, optE_bind, letE_bind]
def A.impl_preorder_l3 (l : List Row) (v17 : List Row) (v18 : Int) : Alt (Ex × St) := .leaf (Int × Bool × List Row) (fun t => (Ex.exit 0, { tm := [(0, V.d (D.sl false 5 l)), (2, V.own 300000 0), (17, V.d (D.sl false 1 v17)), (18, V.d (D.int IntKind.i64 v18)), (19, V.d (D.int IntKind.i64 t.fst)), (20, V.d (D.bool t.snd.fst))], mem := [(300000, Cell.arr false true 0 1 t.snd.snd)] }))
def T.impl_preorder_l3 (l : List Row) (v17 : List Row) (v18 : Int) (s : Int × List Row) : St := match s with
  | (v19, x') => { tm := [(0, V.d (D.sl false 5 l)), (2, V.own 300000 0), (17, V.d (D.sl false 1 v17)), (18, V.d (D.int IntKind.i64 v18)), (19, V.d (D.int IntKind.i64 v19))], mem := [(300000, Cell.arr false true 0 1 x')] }
noncomputable def K.impl_preorder_l3 (rec_impl_preorder : List Row → Int → List Row → Option (List Row)) : KonC := (kcons 47 (P.impl_preorder rec_impl_preorder pnil) knil)
noncomputable def L.impl_preorder_l3 (rec_impl_preorder : List Row → Int → List Row → Option (List Row)) : LoopC := lnil
theorem E.impl_preorder_l3 {R : Type} (rec_impl_preorder : List Row → Int → List Row → Option (List Row)) (l : List Row) (v17 : List Row) (v18 : Int) (s : Int × List Row) (k : Ex → St → Option R) : denC X0 (K.impl_preorder_l3 rec_impl_preorder) (L.impl_preorder_l3 rec_impl_preorder) 47 (loopCode X0.P 47 3) (T.impl_preorder_l3 l v17 v18 s) k = M.impl_preorder_l3_C rec_impl_preorder l v17 v18 s (fun s => k .normal (T.impl_preorder_l3 l v17 v18 s)) (fun t => (A.impl_preorder_l3 l v17 v18).go t fun r => k r.1 r.2) := by
  obtain ⟨v19, x'⟩ := s
  all_goals kernel_rfl
theorem LC.impl_preorder_l3 : loops (loopCode X0.P 47 3) = [] := by kernel_rfl
noncomputable def PL.impl_preorder_l3 (rec_impl_preorder : List Row → Int → List Row → Option (List Row)) (S : St) : ResA (Ex × St) := match S with
  | { tm := [(0, V.d (D.sl false 5 l)), (2, V.own 300000 0), (17, V.d (D.sl false 1 v17)), (18, V.d (D.int IntKind.i64 v18)), (19, V.d (D.int IntKind.i64 v19))], mem := [(300000, Cell.arr false true 0 1 x')] } => ⟨A.impl_preorder_l3 l v17 v18, M.impl_preorder_l3 rec_impl_preorder l v17 v18 ((v19, x'))⟩
  | _ => .none
theorem C.impl_preorder_l3 {rec_impl_preorder : List Row → Int → List Row → Option (List Row)} (h_impl_preorder : H.impl_preorder rec_impl_preorder) : LpOk X0 47 3 (loopCode X0.P 47 3) (PL.impl_preorder_l3 rec_impl_preorder) := by
  refine ⟨by kernel_rfl, fun S r hr => ?_⟩
  unfold PL.impl_preorder_l3 at hr
  split at hr
  · obtain ⟨x, hx, rfl⟩ := ResA.val_some hr
    exact lp_sound (K := K.impl_preorder_l3 rec_impl_preorder) (L := L.impl_preorder_l3 rec_impl_preorder) (b := M.impl_preorder_l3_b rec_impl_preorder _ _ _) (tm := T.impl_preorder_l3 _ _ _) (tx := (A.impl_preorder_l3 _ _ _).enc) (kcons_ok (P.impl_preorder_ok h_impl_preorder pnil_ok) knil_ok) (by rw [LC.impl_preorder_l3]; exact LOk.nil) (fun s => by rw [E.impl_preorder_l3, M.impl_preorder_l3_n]; congr 1; funext r; cases r <;> first | rfl | exact Alt.go_eq _ _ _) (by intro t; intro h; cases h) hx (s := (_, _))
  · cases hr
noncomputable def M.impl_preorder_C {R : Type} (rec_impl_preorder : List Row → Int → List Row → Option (List Row)) (l : List Row) (i : Int) (out' : List Row) (k : List Row → Option R) : Option R :=
  bif ((out'.length + [[D.int IntKind.i64 i]].length) * 8).ble 140737488355328 then
   (bif (out'.length + [[D.int IntKind.i64 i]].length).ble 140737488355328 then
    ((idx l i).bind fun row342 =>
     ((cSl 1 row342 4).bind fun rows343 =>
      ((M.impl_preorder_l3 rec_impl_preorder l rows343 ((↑rows343.length : Int)) ((0, out' ++ [[D.int IntKind.i64 i]]))).bind fun t347 => (bif flatRows t347.snd.snd then (k t347.snd.snd) else none)))) else none) else none
noncomputable def M.impl_preorder_N : Nat → List Row → Int → List Row → Option (List Row)
  | 0 => fun _ _ _ => none
  | n + 1 => fun l i out' => M.impl_preorder_C (M.impl_preorder_N n) l i out' some
noncomputable def M.impl_preorder (l : List Row) (i : Int) (out' : List Row) : Option (List Row) := lim fun n => M.impl_preorder_N n l i out'
theorem M.impl_preorder_n {R : Type} (rec_impl_preorder : List Row → Int → List Row → Option (List Row)) (l : List Row) (i : Int) (out' : List Row) (k : List Row → Option R) : M.impl_preorder_C rec_impl_preorder l i out' k = (M.impl_preorder_C rec_impl_preorder l i out' some).bind k := by
  simp only [M.impl_preorder_C, bif_bind, bind_bind, some_bind, none_bind, sumE_bind, optE_bind, letE_bind]
noncomputable def K.impl_preorder (rec_impl_preorder : List Row → Int → List Row → Option (List Row)) : KonC := knil
noncomputable def L.impl_preorder (rec_impl_preorder : List Row → Int → List Row → Option (List Row)) : LoopC := (lcons 3 (PL.impl_preorder_l3 rec_impl_preorder) lnil)
theorem E.impl_preorder {R : Type} (rec_impl_preorder : List Row → Int → List Row → Option (List Row)) (l : List Row) (i : Int) (out' : List Row) (k : List Row → List Cell → Option R) : bodyC X0 (K.impl_preorder rec_impl_preorder) (L.impl_preorder rec_impl_preorder) 47 [V.d (D.sl false 5 l), V.d (D.int IntKind.i64 i), V.d (D.sl true 1 out')] [] k = M.impl_preorder_C rec_impl_preorder l i out' (fun r => k [[D.sl true 1 r]] []) := by kernel_rfl
theorem LC.impl_preorder : loops (codeOf X0.P 47) = [loopCode X0.P 47 3] := by kernel_rfl
theorem C.impl_preorder_1 {rec_impl_preorder : List Row → Int → List Row → Option (List Row)} (h_impl_preorder : H.impl_preorder rec_impl_preorder) : H.impl_preorder (fun l i out' => M.impl_preorder_C rec_impl_preorder l i out' some) := by
  intro l i out' r h
  exact fn_sound (enc := fun r => ([[D.sl true 1 r]], [])) (K := K.impl_preorder rec_impl_preorder) (L := L.impl_preorder rec_impl_preorder) (by kernel_rfl) knil_ok (by rw [LC.impl_preorder]; exact (LOk.cons (LpOk.at (C.impl_preorder_l3 h_impl_preorder) (fun _ => rfl)) LOk.nil)) (by rw [E.impl_preorder, M.impl_preorder_n] <;> rfl) h
theorem C.impl_preorder_N : ∀ n, H.impl_preorder (M.impl_preorder_N n)
  | 0 => by
    intro l i out' r h
    cases h
  | n + 1 => C.impl_preorder_1 (C.impl_preorder_N n)
theorem C.impl_preorder : H.impl_preorder (M.impl_preorder) := by
  intro l i out' r h
  obtain ⟨n, hn⟩ := lim_some h
  exact C.impl_preorder_N n _ _ _ r hn
theorem M.impl_preorder_of {n : Nat} {l : List Row} {i : Int} {out' : List Row} {r : List Row} (h : M.impl_preorder_N n l i out' = some r) : M.impl_preorder l i out' = some r := by
  refine lim_of h fun m y hy => ?_
  have h1 := C.impl_preorder_N n _ _ _ r h
  have h2 := C.impl_preorder_N m _ _ _ y hy
  rw [h1] at h2
  simp at h2
  (first | exact h2.symm | (simp [Prod.ext_iff, h2]))

/-! impl_Preorder -/
def H.impl_Preorder (o : List Row → Option (List Row)) : Prop := ∀ (l : List Row) (r : List Row), o l = some r → call X0 27 [V.d (D.sl false 5 l)] [] = some ([[D.sl true 1 r]], [])
def P.impl_Preorder (o : List Row → Option (List Row)) (q : List V → List Cell → Res (List Row × List Cell)) (a : List V) (c : List Cell) : Res (List Row × List Cell) := match a, c with
  | [V.d (D.sl false 5 l)], [] => ⟨List Row, o l, fun r => ([[D.sl true 1 r]], [])⟩
  | a, c => q a c
theorem P.impl_Preorder_ok {o : List Row → Option (List Row)} {q : List V → List Cell → Res (List Row × List Cell)} (h : H.impl_Preorder o) (hq : FnOk X0 27 q) : FnOk X0 27 (P.impl_Preorder o q) := by
  intro a c r hr
  unfold P.impl_Preorder at hr
  split at hr
  · obtain ⟨x, hx, rfl⟩ := Res.val_some hr
    exact h _ x hx
  · exact hq _ _ _ hr
noncomputable def M.impl_Preorder_C {R : Type} (l : List Row) (k : List Row → Option R) : Option R :=
  (M.impl_ShapeOk l).bind fun r341 =>
   (bif !r341 then (k []) else
    ((M.impl_preorder l (IntKind.i64.wrap ((↑l.length : Int) - 1)) []).bind fun r348 => (bif flatRows r348 then (k r348) else none)))
noncomputable def M.impl_Preorder (l : List Row) : Option (List Row) := M.impl_Preorder_C l some
theorem M.impl_Preorder_n {R : Type} (l : List Row) (k : List Row → Option R) : M.impl_Preorder_C l k = (M.impl_Preorder_C l some).bind k := by
  simp only [M.impl_Preorder_C, bif_bind, bind_bind, some_bind, none_bind, sumE_bind, optE_bind, letE_bind]
noncomputable def K.impl_Preorder : KonC := (kcons 45 (P.impl_ShapeOk M.impl_ShapeOk pnil) (kcons 47 (P.impl_preorder M.impl_preorder pnil) knil))
noncomputable def L.impl_Preorder : LoopC := lnil
theorem E.impl_Preorder {R : Type} (l : List Row) (k : List Row → List Cell → Option R) : bodyC X0 (K.impl_Preorder) (L.impl_Preorder) 27 [V.d (D.sl false 5 l)] [] k = M.impl_Preorder_C l (fun r => k [[D.sl true 1 r]] []) := by kernel_rfl
theorem LC.impl_Preorder : loops (codeOf X0.P 27) = [] := by kernel_rfl
theorem C.impl_Preorder : H.impl_Preorder (M.impl_Preorder) := by
  intro l r h
  exact fn_sound (enc := fun r => ([[D.sl true 1 r]], [])) (K := K.impl_Preorder) (L := L.impl_Preorder) (by kernel_rfl) (kcons_ok (P.impl_ShapeOk_ok C.impl_ShapeOk pnil_ok) (kcons_ok (P.impl_preorder_ok C.impl_preorder pnil_ok) knil_ok)) (by rw [LC.impl_Preorder]; exact LOk.nil) (by rw [E.impl_Preorder, M.impl_Preorder_n] <;> rfl) h


end Go.Proofs.Ytfbemlhfieemhaa
