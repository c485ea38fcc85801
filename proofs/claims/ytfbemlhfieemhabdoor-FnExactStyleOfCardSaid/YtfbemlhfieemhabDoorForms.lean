/-
  The plain forms of the functions, and that they are what the functions come to.
-/
import Derived.Test.YtfbemlhfieemhabDoorVm4
import Derived.Test.YtfbemlhfieemhabDoorProg
import Derived.Test.YtfbemlhfieemhabDoorPrim
namespace Go.Proofs.YtfbemlhfieemhabDoor
open Go Go.Vm
set_option linter.unusedVariables false
set_option linter.unusedSimpArgs false
def kp3 : List (List Nat) := [[0, 1], [0, 1, 12], [4], [0, 1, 5], [0, 1, 5, 6], [0, 1, 5, 6, 22], [4], [0, 1, 5, 6, 7], [0, 1, 5, 6, 7], [0, 1, 5, 6, 7, 8], [0, 1, 5, 6, 7, 8], [0, 1, 5, 6, 7, 8, 30], [4], [0, 1, 5, 6, 7, 33], [4], [5, 6, 7, 9], [6, 7, 40], [4], [6, 7, 8], [7, 8], [7, 8, 45], [4], [48], [4], [4]]
def kp4 : List (List Nat) := [[0, 1], [0, 1, 5], [0, 1, 5, 6], [0, 1, 5, 6, 7], [0, 1, 5, 6, 7, 14], [0, 1, 5, 6, 7], [0, 1, 5, 6, 7, 23], [0, 1, 5, 6, 7], [0, 1, 5, 6, 7, 40], [0, 1, 5, 6, 7], [0, 1, 5, 6, 7, 51], [0, 1, 5, 6, 7], [0, 1, 5, 6, 7, 74], [0, 1, 5, 6, 7], [5, 6, 91], [5], [4]]
def kp5 : List (List Nat) := [[0, 1], [0, 1, 5, 6], [0, 1, 5, 6, 13, 14, 15], [0, 1, 5, 6, 13, 14, 15, 16], [0, 1, 5, 6, 7, 8, 13, 14, 15], [0, 1, 5, 6, 7, 8, 9, 13, 14, 15], [0, 1, 5, 6, 7, 8, 9, 13, 14, 15], [0, 1, 5, 6, 7, 8, 9, 13, 14, 15], [0, 1, 5, 6, 7, 8, 9, 13, 14, 15], [0, 1, 5, 6, 13, 14, 15], [0, 1, 5, 6, 13, 14, 15], [5, 6, 67], [5], [4]]
def kp6 : List (List Nat) := [[0, 1], [0, 1, 10], [4], [0, 1, 5], [0, 1, 5, 14], [0, 1, 5], [0, 1, 5, 26], [4], [4]]
def kp7 : List (List Nat) := [[0, 1], [0, 1, 5], [0, 1, 5, 9], [0, 1, 5], [0, 1, 5], [0, 1, 5], [0, 1, 5], [0, 1, 5], [4]]
def kp8 : List (List Nat) := [[0, 1], [0, 1, 5], [0, 1, 5, 9], [0, 1, 5], [0, 1, 5, 18], [4], [0, 1, 5], [0, 1, 5, 28], [4], [0, 1, 5], [4]]
def kp9 : List (List Nat) := [[0], [0, 3], [0, 3, 4], [0, 3, 4, 5], [0, 3, 4, 5, 10], [0, 3, 4, 5], [0, 3, 4, 5, 16], [0, 3, 5], [0, 3, 4, 5], [0, 3, 4, 29], [3], [2]]
def kp10 : List (List Nat) := [[0], [0, 3], [0, 3, 15], [0, 3], [2]]
def kp11 : List (List Nat) := [[0, 1], [0, 1, 5], [0, 1, 5, 9], [0, 1, 5], [0, 1, 5, 16], [4], [4]]
def kp12 : List (List Nat) := [[0], [3], [3, 12], [3], [2]]
def kp13 : List (List Nat) := [[1, 2, 3, 6], []]
def kp14 : List (List Nat) := [[0], [2]]
def kp15 : List (List Nat) := [[0, 1], [4]]
def kp16 : List (List Nat) := [[0, 1], [4]]
def kp17 : List (List Nat) := [[2, 3], [2, 3, 9], [4], [14], [4], [4]]
def kp18 : List (List Nat) := [[0], [0, 5], [2], [0, 3], [0, 3, 7], [0, 3], [0, 3], [2]]
def kp19 : List (List Nat) := [[0], [2]]
def kp20 : List (List Nat) := [[0, 1], [4]]
def kp21 : List (List Nat) := [[0, 1], [4]]
def kp22 : List (List Nat) := [[0, 1], [4]]
def kp23 : List (List Nat) := [[0, 1, 2, 3], [0, 1, 2, 3, 13], [8], [0, 1, 2, 3, 15], [8], [0, 1, 2, 3, 20], [0, 1, 2, 3], [0, 1, 2, 3], [0, 1, 2, 3, 9], [0, 1, 2, 3, 9], [0, 1, 2, 3, 9, 10], [0, 1, 2, 3, 9, 10, 36], [0, 1, 2, 3, 9, 10, 11], [0, 1, 2, 3, 9, 10, 11, 41], [0, 1, 2, 3, 9, 10, 11], [0, 1, 2, 3, 9, 10], [0, 1, 2, 3, 9, 10], [9, 10], [8]]
def kp24 : List (List Nat) := [[0, 1], [0, 1, 5], [0, 1, 5, 16], [4], [0, 1, 5, 24], [4], [0, 1, 5, 31], [4], [0, 1, 5, 36], [4], [0, 1, 5, 6], [0, 1, 5, 6, 7], [0, 1, 5, 6, 7, 8], [0, 1, 5, 6, 7, 8, 9], [0, 1, 5, 6, 7, 8, 9, 10], [0, 1, 5, 6, 7, 8, 9, 10, 59], [0, 1, 5, 6, 7, 8, 9, 10, 64], [0, 1, 5, 6, 7, 8, 9, 10, 11], [0, 1, 5, 6, 7, 8, 9, 10, 11, 73], [4], [0, 1, 5, 6, 7, 8, 9, 10], [0, 1, 5, 6, 7, 8, 9, 10, 93], [4], [0, 1, 5, 6, 7, 8, 9, 10], [0, 1, 5, 6, 7, 8, 9, 10], [0, 1, 5, 6, 7, 8, 9, 10, 107], [8, 12], [8, 12, 114], [4], [4], [0, 1, 5, 6, 7, 8, 9, 10, 132], [8, 13], [8, 13, 139], [4], [4], [4]]
def kp25 : List (List Nat) := [[0, 1], [0, 1, 5], [0, 1, 5, 18], [0, 1], [0, 1, 6], [0, 1, 6, 7], [0, 1, 6, 7, 25], [0, 1, 6, 7], [0, 1, 6, 7, 9], [0, 1, 6, 7, 9], [0, 1, 6, 7], [0, 1, 6, 43], [6], [4]]
def kp26 : List (List Nat) := [[0, 1], [0, 1, 9], [4], [0, 1, 15], [4], [0, 1, 5], [0, 1, 5, 6], [0, 1, 5, 6, 24], [4], [0, 1, 5, 6], [0, 1, 5]]
def kp27 : List (List Nat) := [[0, 1], [4]]
def kp29 : List (List Nat) := [[0], [2]]
def kp30 : List (List Nat) := [[0, 1], [0, 1, 5, 6], [0, 1, 5, 6, 7], [0, 1, 5, 6, 7, 8], [0, 1, 5, 6, 7, 8, 9], [0, 1, 5, 6, 7, 8, 9, 20], [0, 1, 5, 6, 7, 8, 9], [0, 1, 5, 6, 7, 8, 9], [0, 1, 5, 6, 7, 8, 39], [4], [0, 1, 5, 6, 7, 8, 10], [0, 1, 5, 6, 7, 8, 10, 44], [0, 1, 5, 6, 7, 8, 10], [0, 1, 5, 6, 7, 8, 10], [0, 1, 5, 6, 7, 8, 10], [0, 1, 5, 6, 7, 8, 10], [0, 1, 5, 6, 7, 8, 10, 77], [4], [4]]
def kp31 : List (List Nat) := [[0, 2], [2, 4], [2, 4, 6], [2, 4], [2]]
def kp32 : List (List Nat) := [[0], [0, 10], [2, 3], [2, 3]]
def kp35 : List (List Nat) := [[0], [0, 4], [0, 4, 5], [0, 4, 5, 12], [0, 4, 5], [0, 4, 5], [0, 4, 6, 7], [4, 6, 7, 8], [4, 6, 7, 8, 25], [4, 6, 7, 8], [4, 6, 7, 8, 30], [4, 6, 7, 8], [4, 6, 7, 8], [2, 3]]
def kp36 : List (List Nat) := [[0], [0, 4], [0, 4, 16], [2, 3], [0, 4, 5], [0, 4, 5, 6], [0, 4, 5, 6, 23], [0, 7], [2, 3], [0, 4, 5, 6, 8], [0, 4, 5, 8, 9], [0, 5, 8, 9, 45], [2, 3], [0, 5, 8, 9, 10], [0, 5, 8, 10, 57], [2, 3], [0, 5, 8, 10, 59], [2, 3], [0, 5, 8, 10, 11], [0, 5, 8, 10, 11, 75], [2, 3], [0, 5, 10, 11, 77], [2, 3], [5, 10, 11, 12], [5, 10, 11, 12, 98], [2, 3], [2, 3]]
def keepT : List (List (List Nat)) := [[], [], [], kp3, kp4, kp5, kp6, kp7, kp8, kp9, kp10, kp11, kp12, kp13, kp14, kp15, kp16, kp17, kp18, kp19, kp20, kp21, kp22, kp23, kp24, kp25, kp26, kp27, [], kp29, kp30, kp31, kp32, [], [], kp35, kp36, [], [], [], [], [], [], [], [], [], [], [], [], [], [], [], [], [], [], [], [], []]
def refT : List (List Nat) := [[], [], [], [], [], [], [], [0]]
def moveT : List (List Nat) := []
def fuseT : List (List Nat) := []
def bownT : List (List Nat) := [[], [], [], [], [], [], [], [], [], [], [], [], [], [], [], [], [], [], [], [], [], [], [0]]
def truncT : List (List Nat) := [[], [], [], [], [], [], [], [], [], [], [], [], [17]]
noncomputable def adv : Adv := ⟨fun f r => (keepT.getD f []).getD r [], fun f => moveT.getD f [], fun f => refT.getD f [], fun _ _ => List.range 200, fun t => (bownT.getD t []), fun f r => (fuseT.getD f []).getD r 0, fun f d => mem? d (truncT.getD f [])⟩
noncomputable def X0 : Ctx := ⟨Tryd.prog, adv, fun f => bif Nat.beq f 20 then some Prim.strings_Split else bif Nat.beq f 15 then some Prim.strings_Contains else none, fun g => none, fun g => bif Nat.beq g 0 then true else false⟩

/-! spec_LinesOf -/
def H.spec_LinesOf (o : List UInt8 → Option (List Row)) : Prop := ∀ (s' : List UInt8) (r : List Row), o s' = some r → call X0 9 [V.d (D.str s')] [] = some ([[D.sl true 1 r]], [])
def P.spec_LinesOf (o : List UInt8 → Option (List Row)) (q : List V → List Cell → Res (List Row × List Cell)) (a : List V) (c : List Cell) : Res (List Row × List Cell) := match a, c with
  | [V.d (D.str s')], [] => ⟨List Row, o s', fun r => ([[D.sl true 1 r]], [])⟩
  | a, c => q a c
theorem P.spec_LinesOf_ok {o : List UInt8 → Option (List Row)} {q : List V → List Cell → Res (List Row × List Cell)} (h : H.spec_LinesOf o) (hq : FnOk X0 9 q) : FnOk X0 9 (P.spec_LinesOf o q) := by
  intro a c r hr
  unfold P.spec_LinesOf at hr
  split at hr
  · obtain ⟨x, hx, rfl⟩ := Res.val_some hr
    exact h _ x hx
  · exact hq _ _ _ hr
noncomputable def M.spec_LinesOf_l4_C {R : Type} (s' : List UInt8) (s : Int × Int × List Row) (kn : Int × Int × List Row → Option R) (ke : Int × Int × Bool × List Row → Option R) : Option R := match s with
  | (from', i, x') =>
    bif decide (i < (↑s'.length : Int)) then
     ((idx s' i).bind fun c0 =>
      (bif (↑c0.toNat : Int) == 10 then
       ((cut s' from' i).bind fun s1 =>
        (bif ((x'.length + [[D.str s1]].length) * 16).ble 140737488355328 then
         (bif (x'.length + [[D.str s1]].length).ble 140737488355328 then (kn ((IntKind.i64.wrap (i + 1), IntKind.i64.wrap (i + 1), x' ++ [[D.str s1]]))) else none) else none)) else (kn ((from', IntKind.i64.wrap (i + 1), x'))))) else (ke ((from', i, decide (i < (↑s'.length : Int)), x')))
noncomputable def M.spec_LinesOf_l4_b (s' : List UInt8) (s : Int × Int × List Row) : Option ((Int × Int × List Row) ⊕ (Int × Int × Bool × List Row)) := M.spec_LinesOf_l4_C s' s (fun s => some (.inl s)) (fun t => some (.inr t))
noncomputable def M.spec_LinesOf_l4 (s' : List UInt8) (s : Int × Int × List Row) : Option (Int × Int × Bool × List Row) := loopM (M.spec_LinesOf_l4_b s') s
theorem M.spec_LinesOf_l4_n {R : Type} (s' : List UInt8) (s : Int × Int × List Row) (kn : Int × Int × List Row → Option R) (ke : Int × Int × Bool × List Row → Option R) : M.spec_LinesOf_l4_C s' s kn ke = (M.spec_LinesOf_l4_b s' s).bind fun r => match r with | .inl s => kn s | .inr t => ke t := by
  obtain ⟨from', i, x'⟩ := s
  all_goals
    simp only [M.spec_LinesOf_l4_b, M.spec_LinesOf_l4_C, bif_bind, bind_bind, some_bind, none_bind, sumE_bind, optE_bind, letE_bind]
def A.spec_LinesOf_l4 (s' : List UInt8) : Alt (Ex × St) := .leaf (Int × Int × Bool × List Row) (fun t => (Ex.exit 0, { tm := [(0, V.d (D.str s')), (3, V.own 300000 0), (4, V.d (D.int IntKind.i64 t.fst)), (5, V.d (D.int IntKind.i64 t.snd.fst)), (10, V.d (D.bool t.snd.snd.fst))], mem := [(300000, Cell.arr false true 0 1 t.snd.snd.snd)] }))
def T.spec_LinesOf_l4 (s' : List UInt8) (s : Int × Int × List Row) : St := match s with
  | (from', i, x') => { tm := [(0, V.d (D.str s')), (3, V.own 300000 0), (4, V.d (D.int IntKind.i64 from')), (5, V.d (D.int IntKind.i64 i))], mem := [(300000, Cell.arr false true 0 1 x')] }
noncomputable def K.spec_LinesOf_l4 : KonC := knil
noncomputable def L.spec_LinesOf_l4 : LoopC := lnil
theorem E.spec_LinesOf_l4 {R : Type} (s' : List UInt8) (s : Int × Int × List Row) (k : Ex → St → Option R) : denC X0 (K.spec_LinesOf_l4) (L.spec_LinesOf_l4) 9 (loopCode X0.P 9 4) (T.spec_LinesOf_l4 s' s) k = M.spec_LinesOf_l4_C s' s (fun s => k .normal (T.spec_LinesOf_l4 s' s)) (fun t => (A.spec_LinesOf_l4 s').go t fun r => k r.1 r.2) := by
  obtain ⟨from', i, x'⟩ := s
  all_goals kernel_rfl
theorem LC.spec_LinesOf_l4 : loops (loopCode X0.P 9 4) = [] := by kernel_rfl
noncomputable def PL.spec_LinesOf_l4 (S : St) : ResA (Ex × St) := match S with
  | { tm := [(0, V.d (D.str s')), (3, V.own 300000 0), (4, V.d (D.int IntKind.i64 from')), (5, V.d (D.int IntKind.i64 i))], mem := [(300000, Cell.arr false true 0 1 x')] } => ⟨A.spec_LinesOf_l4 s', M.spec_LinesOf_l4 s' ((from', i, x'))⟩
  | _ => .none
theorem C.spec_LinesOf_l4 : LpOk X0 9 4 (loopCode X0.P 9 4) (PL.spec_LinesOf_l4) := by
  refine ⟨by kernel_rfl, fun S r hr => ?_⟩
  unfold PL.spec_LinesOf_l4 at hr
  split at hr
  · obtain ⟨x, hx, rfl⟩ := ResA.val_some hr
    exact lp_sound (K := K.spec_LinesOf_l4) (L := L.spec_LinesOf_l4) (b := M.spec_LinesOf_l4_b _) (tm := T.spec_LinesOf_l4 _) (tx := (A.spec_LinesOf_l4 _).enc) knil_ok (by rw [LC.spec_LinesOf_l4]; exact LOk.nil) (fun s => by rw [E.spec_LinesOf_l4, M.spec_LinesOf_l4_n]; congr 1; funext r; cases r <;> first | rfl | exact Alt.go_eq _ _ _) (by intro t; intro h; cases h) hx (s := (_, _, _))
  · cases hr
noncomputable def M.spec_LinesOf_C {R : Type} (s' : List UInt8) (k : List Row → Option R) : Option R :=
  (M.spec_LinesOf_l4 s' ((0, 0, []))).bind fun t2 =>
   (bif decide (t2.fst < (↑s'.length : Int)) then
    ((cut s' t2.fst (↑s'.length : Int)).bind fun s3 =>
     (bif ((t2.snd.snd.snd.length + [[D.str s3]].length) * 16).ble 140737488355328 then
      (bif (t2.snd.snd.snd.length + [[D.str s3]].length).ble 140737488355328 then
       (bif flatRows (t2.snd.snd.snd ++ [[D.str s3]]) then (k (t2.snd.snd.snd ++ [[D.str s3]])) else none) else none) else none)) else (bif flatRows t2.snd.snd.snd then (k t2.snd.snd.snd) else none))
noncomputable def M.spec_LinesOf (s' : List UInt8) : Option (List Row) := M.spec_LinesOf_C s' some
theorem M.spec_LinesOf_n {R : Type} (s' : List UInt8) (k : List Row → Option R) : M.spec_LinesOf_C s' k = (M.spec_LinesOf_C s' some).bind k := by
  simp only [M.spec_LinesOf_C, bif_bind, bind_bind, some_bind, none_bind, sumE_bind, optE_bind, letE_bind]
noncomputable def K.spec_LinesOf : KonC := knil
noncomputable def L.spec_LinesOf : LoopC := (lcons 4 (PL.spec_LinesOf_l4) lnil)
theorem E.spec_LinesOf {R : Type} (s' : List UInt8) (k : List Row → List Cell → Option R) : bodyC X0 (K.spec_LinesOf) (L.spec_LinesOf) 9 [V.d (D.str s')] [] k = M.spec_LinesOf_C s' (fun r => k [[D.sl true 1 r]] []) := by kernel_rfl
theorem LC.spec_LinesOf : loops (codeOf X0.P 9) = [loopCode X0.P 9 4] := by kernel_rfl
theorem C.spec_LinesOf : H.spec_LinesOf (M.spec_LinesOf) := by
  intro s' r h
  exact fn_sound (enc := fun r => ([[D.sl true 1 r]], [])) (K := K.spec_LinesOf) (L := L.spec_LinesOf) (by kernel_rfl) knil_ok (by rw [LC.spec_LinesOf]; exact (LOk.cons (LpOk.at (C.spec_LinesOf_l4) (fun _ => rfl)) LOk.nil)) (by rw [E.spec_LinesOf, M.spec_LinesOf_n] <;> rfl) h

/-! spec_IsBlank -/
def H.spec_IsBlank (o : Int → Option (Bool)) : Prop := ∀ (b : Int) (r : Bool), o b = some r → call X0 19 [V.d (D.int IntKind.i64 b)] [] = some ([[D.bool r]], [])
def P.spec_IsBlank (o : Int → Option (Bool)) (q : List V → List Cell → Res (List Row × List Cell)) (a : List V) (c : List Cell) : Res (List Row × List Cell) := match a, c with
  | [V.d (D.int IntKind.i64 b)], [] => ⟨Bool, o b, fun r => ([[D.bool r]], [])⟩
  | a, c => q a c
theorem P.spec_IsBlank_ok {o : Int → Option (Bool)} {q : List V → List Cell → Res (List Row × List Cell)} (h : H.spec_IsBlank o) (hq : FnOk X0 19 q) : FnOk X0 19 (P.spec_IsBlank o q) := by
  intro a c r hr
  unfold P.spec_IsBlank at hr
  split at hr
  · obtain ⟨x, hx, rfl⟩ := Res.val_some hr
    exact h _ x hx
  · exact hq _ _ _ hr
noncomputable def M.spec_IsBlank_C {R : Type} (b : Int) (k : Bool → Option R) : Option R :=
  bif b == 32 then (k true) else (k (b == 9))
noncomputable def M.spec_IsBlank (b : Int) : Option (Bool) := M.spec_IsBlank_C b some
theorem M.spec_IsBlank_n {R : Type} (b : Int) (k : Bool → Option R) : M.spec_IsBlank_C b k = (M.spec_IsBlank_C b some).bind k := by
  simp only [M.spec_IsBlank_C, bif_bind, bind_bind, some_bind, none_bind, sumE_bind, optE_bind, letE_bind]
noncomputable def K.spec_IsBlank : KonC := knil
noncomputable def L.spec_IsBlank : LoopC := lnil
theorem E.spec_IsBlank {R : Type} (b : Int) (k : List Row → List Cell → Option R) : bodyC X0 (K.spec_IsBlank) (L.spec_IsBlank) 19 [V.d (D.int IntKind.i64 b)] [] k = M.spec_IsBlank_C b (fun r => k [[D.bool r]] []) := by kernel_rfl
theorem LC.spec_IsBlank : loops (codeOf X0.P 19) = [] := by kernel_rfl
theorem C.spec_IsBlank : H.spec_IsBlank (M.spec_IsBlank) := by
  intro b r h
  exact fn_sound (enc := fun r => ([[D.bool r]], [])) (K := K.spec_IsBlank) (L := L.spec_IsBlank) (by kernel_rfl) knil_ok (by rw [LC.spec_IsBlank]; exact LOk.nil) (by rw [E.spec_IsBlank, M.spec_IsBlank_n] <;> rfl) h

/-! spec_l47End -/
def H.spec_l47End (o : List UInt8 → Option (Int)) : Prop := ∀ (s' : List UInt8) (r : Int), o s' = some r → call X0 10 [V.d (D.str s')] [] = some ([[D.int IntKind.i64 r]], [])
def P.spec_l47End (o : List UInt8 → Option (Int)) (q : List V → List Cell → Res (List Row × List Cell)) (a : List V) (c : List Cell) : Res (List Row × List Cell) := match a, c with
  | [V.d (D.str s')], [] => ⟨Int, o s', fun r => ([[D.int IntKind.i64 r]], [])⟩
  | a, c => q a c
theorem P.spec_l47End_ok {o : List UInt8 → Option (Int)} {q : List V → List Cell → Res (List Row × List Cell)} (h : H.spec_l47End o) (hq : FnOk X0 10 q) : FnOk X0 10 (P.spec_l47End o q) := by
  intro a c r hr
  unfold P.spec_l47End at hr
  split at hr
  · obtain ⟨x, hx, rfl⟩ := Res.val_some hr
    exact h _ x hx
  · exact hq _ _ _ hr
noncomputable def M.spec_l47End_l2_C {R : Type} (s' : List UInt8) (s : Int) (kn : Int → Option R) (ke : Int × Bool → Option R) : Option R := match s with
  | n' =>
    bif decide (n' > 0) then
     ((idx s' (IntKind.i64.wrap (n' - 1))).bind fun c11 =>
      ((M.spec_IsBlank (IntKind.i64.wrap (↑c11.toNat : Int))).bind fun r12 => (bif r12 then (kn (IntKind.i64.wrap (n' - 1))) else (ke ((n', r12)))))) else (ke ((n', false)))
noncomputable def M.spec_l47End_l2_b (s' : List UInt8) (s : Int) : Option ((Int) ⊕ (Int × Bool)) := M.spec_l47End_l2_C s' s (fun s => some (.inl s)) (fun t => some (.inr t))
noncomputable def M.spec_l47End_l2 (s' : List UInt8) (s : Int) : Option (Int × Bool) := loopM (M.spec_l47End_l2_b s') s
theorem M.spec_l47End_l2_n {R : Type} (s' : List UInt8) (s : Int) (kn : Int → Option R) (ke : Int × Bool → Option R) : M.spec_l47End_l2_C s' s kn ke = (M.spec_l47End_l2_b s' s).bind fun r => match r with | .inl s => kn s | .inr t => ke t := by
  skip
  all_goals
    simp only [M.spec_l47End_l2_b, M.spec_l47End_l2_C, bif_bind, bind_bind, some_bind, none_bind, sumE_bind, optE_bind, letE_bind]
def A.spec_l47End_l2 (s' : List UInt8) : Alt (Ex × St) := .leaf (Int × Bool) (fun t => (Ex.exit 0, { tm := [(0, V.d (D.str s')), (3, V.d (D.int IntKind.i64 t.fst)), (15, V.d (D.bool t.snd))], mem := [] }))
def T.spec_l47End_l2 (s' : List UInt8) (s : Int) : St := match s with
  | n' => { tm := [(0, V.d (D.str s')), (3, V.d (D.int IntKind.i64 n'))], mem := [] }
noncomputable def K.spec_l47End_l2 : KonC := (kcons 19 (P.spec_IsBlank M.spec_IsBlank pnil) knil)
noncomputable def L.spec_l47End_l2 : LoopC := lnil
theorem E.spec_l47End_l2 {R : Type} (s' : List UInt8) (s : Int) (k : Ex → St → Option R) : denC X0 (K.spec_l47End_l2) (L.spec_l47End_l2) 10 (loopCode X0.P 10 2) (T.spec_l47End_l2 s' s) k = M.spec_l47End_l2_C s' s (fun s => k .normal (T.spec_l47End_l2 s' s)) (fun t => (A.spec_l47End_l2 s').go t fun r => k r.1 r.2) := by
  skip
  all_goals kernel_rfl
theorem LC.spec_l47End_l2 : loops (loopCode X0.P 10 2) = [] := by kernel_rfl
noncomputable def PL.spec_l47End_l2 (S : St) : ResA (Ex × St) := match S with
  | { tm := [(0, V.d (D.str s')), (3, V.d (D.int IntKind.i64 n'))], mem := [] } => ⟨A.spec_l47End_l2 s', M.spec_l47End_l2 s' n'⟩
  | _ => .none
theorem C.spec_l47End_l2 : LpOk X0 10 2 (loopCode X0.P 10 2) (PL.spec_l47End_l2) := by
  refine ⟨by kernel_rfl, fun S r hr => ?_⟩
  unfold PL.spec_l47End_l2 at hr
  split at hr
  · obtain ⟨x, hx, rfl⟩ := ResA.val_some hr
    exact lp_sound (K := K.spec_l47End_l2) (L := L.spec_l47End_l2) (b := M.spec_l47End_l2_b _) (tm := T.spec_l47End_l2 _) (tx := (A.spec_l47End_l2 _).enc) (kcons_ok (P.spec_IsBlank_ok C.spec_IsBlank pnil_ok) knil_ok) (by rw [LC.spec_l47End_l2]; exact LOk.nil) (fun s => by rw [E.spec_l47End_l2, M.spec_l47End_l2_n]; congr 1; funext r; cases r <;> first | rfl | exact Alt.go_eq _ _ _) (by intro t; intro h; cases h) hx (s := _)
  · cases hr
noncomputable def M.spec_l47End_C {R : Type} (s' : List UInt8) (k : Int → Option R) : Option R :=
  (M.spec_l47End_l2 s' ((↑s'.length : Int))).bind fun t13 => (k t13.fst)
noncomputable def M.spec_l47End (s' : List UInt8) : Option (Int) := M.spec_l47End_C s' some
theorem M.spec_l47End_n {R : Type} (s' : List UInt8) (k : Int → Option R) : M.spec_l47End_C s' k = (M.spec_l47End_C s' some).bind k := by
  simp only [M.spec_l47End_C, bif_bind, bind_bind, some_bind, none_bind, sumE_bind, optE_bind, letE_bind]
noncomputable def K.spec_l47End : KonC := knil
noncomputable def L.spec_l47End : LoopC := (lcons 2 (PL.spec_l47End_l2) lnil)
theorem E.spec_l47End {R : Type} (s' : List UInt8) (k : List Row → List Cell → Option R) : bodyC X0 (K.spec_l47End) (L.spec_l47End) 10 [V.d (D.str s')] [] k = M.spec_l47End_C s' (fun r => k [[D.int IntKind.i64 r]] []) := by kernel_rfl
theorem LC.spec_l47End : loops (codeOf X0.P 10) = [loopCode X0.P 10 2] := by kernel_rfl
theorem C.spec_l47End : H.spec_l47End (M.spec_l47End) := by
  intro s' r h
  exact fn_sound (enc := fun r => ([[D.int IntKind.i64 r]], [])) (K := K.spec_l47End) (L := L.spec_l47End) (by kernel_rfl) knil_ok (by rw [LC.spec_l47End]; exact (LOk.cons (LpOk.at (C.spec_l47End_l2) (fun _ => rfl)) LOk.nil)) (by rw [E.spec_l47End, M.spec_l47End_n] <;> rfl) h

/-! spec_l47Has -/
def H.spec_l47Has (o : List UInt8 → Int → Option (Bool)) : Prop := ∀ (s' : List UInt8) (b : Int) (r : Bool), o s' b = some r → call X0 11 [V.d (D.str s'), V.d (D.int IntKind.u8 b)] [] = some ([[D.bool r]], [])
def P.spec_l47Has (o : List UInt8 → Int → Option (Bool)) (q : List V → List Cell → Res (List Row × List Cell)) (a : List V) (c : List Cell) : Res (List Row × List Cell) := match a, c with
  | [V.d (D.str s'), V.d (D.int IntKind.u8 b)], [] => ⟨Bool, o s' b, fun r => ([[D.bool r]], [])⟩
  | a, c => q a c
theorem P.spec_l47Has_ok {o : List UInt8 → Int → Option (Bool)} {q : List V → List Cell → Res (List Row × List Cell)} (h : H.spec_l47Has o) (hq : FnOk X0 11 q) : FnOk X0 11 (P.spec_l47Has o q) := by
  intro a c r hr
  unfold P.spec_l47Has at hr
  split at hr
  · obtain ⟨x, hx, rfl⟩ := Res.val_some hr
    exact h _ _ x hx
  · exact hq _ _ _ hr
noncomputable def M.spec_l47Has_l2_C {R : Type} (s' : List UInt8) (b : Int) (s : Int) (kn : Int → Option R) (ke : (Unit) ⊕ (Int × Bool) → Option R) : Option R := match s with
  | i =>
    bif decide (i < (↑s'.length : Int)) then
     ((idx s' i).bind fun c21 => (bif (↑c21.toNat : Int) == b then (ke (.inl ())) else (kn (IntKind.i64.wrap (i + 1))))) else (ke (.inr ((i, decide (i < (↑s'.length : Int))))))
noncomputable def M.spec_l47Has_l2_b (s' : List UInt8) (b : Int) (s : Int) : Option ((Int) ⊕ ((Unit) ⊕ (Int × Bool))) := M.spec_l47Has_l2_C s' b s (fun s => some (.inl s)) (fun t => some (.inr t))
noncomputable def M.spec_l47Has_l2 (s' : List UInt8) (b : Int) (s : Int) : Option ((Unit) ⊕ (Int × Bool)) := loopM (M.spec_l47Has_l2_b s' b) s
theorem M.spec_l47Has_l2_n {R : Type} (s' : List UInt8) (b : Int) (s : Int) (kn : Int → Option R) (ke : (Unit) ⊕ (Int × Bool) → Option R) : M.spec_l47Has_l2_C s' b s kn ke = (M.spec_l47Has_l2_b s' b s).bind fun r => match r with | .inl s => kn s | .inr t => ke t := by
  skip
  all_goals
    simp only [M.spec_l47Has_l2_b, M.spec_l47Has_l2_C, bif_bind, bind_bind, some_bind, none_bind, sumE_bind, optE_bind, letE_bind]
def A.spec_l47Has_l2 (s' : List UInt8) (b : Int) : Alt (Ex × St) := .sum (.leaf (Unit) (fun t => (Ex.ret, { tm := [(4, V.d (D.bool true))], mem := [] }))) (.leaf (Int × Bool) (fun t => (Ex.exit 0, { tm := [(0, V.d (D.str s')), (1, V.d (D.int IntKind.u8 b)), (5, V.d (D.int IntKind.i64 t.fst)), (9, V.d (D.bool t.snd))], mem := [] })))
def T.spec_l47Has_l2 (s' : List UInt8) (b : Int) (s : Int) : St := match s with
  | i => { tm := [(0, V.d (D.str s')), (1, V.d (D.int IntKind.u8 b)), (5, V.d (D.int IntKind.i64 i))], mem := [] }
noncomputable def K.spec_l47Has_l2 : KonC := knil
noncomputable def L.spec_l47Has_l2 : LoopC := lnil
theorem E.spec_l47Has_l2 {R : Type} (s' : List UInt8) (b : Int) (s : Int) (k : Ex → St → Option R) : denC X0 (K.spec_l47Has_l2) (L.spec_l47Has_l2) 11 (loopCode X0.P 11 2) (T.spec_l47Has_l2 s' b s) k = M.spec_l47Has_l2_C s' b s (fun s => k .normal (T.spec_l47Has_l2 s' b s)) (fun t => (A.spec_l47Has_l2 s' b).go t fun r => k r.1 r.2) := by
  skip
  all_goals kernel_rfl
theorem LC.spec_l47Has_l2 : loops (loopCode X0.P 11 2) = [] := by kernel_rfl
noncomputable def PL.spec_l47Has_l2 (S : St) : ResA (Ex × St) := match S with
  | { tm := [(0, V.d (D.str s')), (1, V.d (D.int IntKind.u8 b)), (5, V.d (D.int IntKind.i64 i))], mem := [] } => ⟨A.spec_l47Has_l2 s' b, M.spec_l47Has_l2 s' b i⟩
  | _ => .none
theorem C.spec_l47Has_l2 : LpOk X0 11 2 (loopCode X0.P 11 2) (PL.spec_l47Has_l2) := by
  refine ⟨by kernel_rfl, fun S r hr => ?_⟩
  unfold PL.spec_l47Has_l2 at hr
  split at hr
  · obtain ⟨x, hx, rfl⟩ := ResA.val_some hr
    exact lp_sound (K := K.spec_l47Has_l2) (L := L.spec_l47Has_l2) (b := M.spec_l47Has_l2_b _ _) (tm := T.spec_l47Has_l2 _ _) (tx := (A.spec_l47Has_l2 _ _).enc) knil_ok (by rw [LC.spec_l47Has_l2]; exact LOk.nil) (fun s => by rw [E.spec_l47Has_l2, M.spec_l47Has_l2_n]; congr 1; funext r; cases r <;> first | rfl | exact Alt.go_eq _ _ _) (by intro t; rcases t with t | t <;> first | (intro h; cases h) | (intro h; cases h)) hx (s := _)
  · cases hr
noncomputable def M.spec_l47Has_C {R : Type} (s' : List UInt8) (b : Int) (k : Bool → Option R) : Option R :=
  (M.spec_l47Has_l2 s' b 0).bind fun u24 =>
  sumE u24 (fun t22 => (k true)) fun u25 =>
   letE u25 fun t23 => (k false)
noncomputable def M.spec_l47Has (s' : List UInt8) (b : Int) : Option (Bool) := M.spec_l47Has_C s' b some
theorem M.spec_l47Has_n {R : Type} (s' : List UInt8) (b : Int) (k : Bool → Option R) : M.spec_l47Has_C s' b k = (M.spec_l47Has_C s' b some).bind k := by
  simp only [M.spec_l47Has_C, bif_bind, bind_bind, some_bind, none_bind, sumE_bind, optE_bind, letE_bind]
noncomputable def K.spec_l47Has : KonC := knil
noncomputable def L.spec_l47Has : LoopC := (lcons 2 (PL.spec_l47Has_l2) lnil)
theorem E.spec_l47Has {R : Type} (s' : List UInt8) (b : Int) (k : List Row → List Cell → Option R) : bodyC X0 (K.spec_l47Has) (L.spec_l47Has) 11 [V.d (D.str s'), V.d (D.int IntKind.u8 b)] [] k = M.spec_l47Has_C s' b (fun r => k [[D.bool r]] []) := by kernel_rfl
theorem LC.spec_l47Has : loops (codeOf X0.P 11) = [loopCode X0.P 11 2] := by kernel_rfl
theorem C.spec_l47Has : H.spec_l47Has (M.spec_l47Has) := by
  intro s' b r h
  exact fn_sound (enc := fun r => ([[D.bool r]], [])) (K := K.spec_l47Has) (L := L.spec_l47Has) (by kernel_rfl) knil_ok (by rw [LC.spec_l47Has]; exact (LOk.cons (LpOk.at (C.spec_l47Has_l2) (fun _ => rfl)) LOk.nil)) (by rw [E.spec_l47Has, M.spec_l47Has_n] <;> rfl) h

/-! spec_StyleOf -/
def H.spec_StyleOf (o : List UInt8 → Int → Option (List Row)) : Prop := ∀ (s' : List UInt8) (w : Int) (r : List Row), o s' w = some r → call X0 4 [V.d (D.str s'), V.d (D.int IntKind.i64 w)] [] = some ([[D.sl true 2 r]], [])
def P.spec_StyleOf (o : List UInt8 → Int → Option (List Row)) (q : List V → List Cell → Res (List Row × List Cell)) (a : List V) (c : List Cell) : Res (List Row × List Cell) := match a, c with
  | [V.d (D.str s'), V.d (D.int IntKind.i64 w)], [] => ⟨List Row, o s' w, fun r => ([[D.sl true 2 r]], [])⟩
  | a, c => q a c
theorem P.spec_StyleOf_ok {o : List UInt8 → Int → Option (List Row)} {q : List V → List Cell → Res (List Row × List Cell)} (h : H.spec_StyleOf o) (hq : FnOk X0 4 q) : FnOk X0 4 (P.spec_StyleOf o q) := by
  intro a c r hr
  unfold P.spec_StyleOf at hr
  split at hr
  · obtain ⟨x, hx, rfl⟩ := Res.val_some hr
    exact h _ _ x hx
  · exact hq _ _ _ hr
noncomputable def M.spec_StyleOf_l4_C {R : Type} (s' : List UInt8) (w : Int) (x'1 : List Row) (s : Int × List Row) (kn : Int × List Row → Option R) (ke : Int × Bool × List Row → Option R) : Option R := match s with
  | (i, x') =>
    bif decide (i < (↑x'1.length : Int)) then
     ((idx x'1 i).bind fun row5 =>
      (x'1[i.toNat]?.bind fun row6 =>
       ((cStr row6 0).bind fun s7 =>
        (bif decide ((↑s7.length : Int) > w) then
         (bif ((x'.length + [[D.int IntKind.i64 (IntKind.i64.wrap (i + 1)), D.str [108, 111, 110, 103]]].length) * 24).ble 140737488355328 then
          (bif (x'.length + [[D.int IntKind.i64 (IntKind.i64.wrap (i + 1)), D.str [108, 111, 110, 103]]].length).ble 140737488355328 then
           ((idx x'1 i).bind fun row8 =>
            (x'1[i.toNat]?.bind fun row9 =>
             ((cStr row9 0).bind fun s10 =>
              ((M.spec_l47End s10).bind fun r14 =>
               ((idx x'1 i).bind fun row15 =>
                (x'1[i.toNat]?.bind fun row16 =>
                 ((cStr row16 0).bind fun s17 =>
                  (bif decide (r14 < (↑s17.length : Int)) then
                   (bif (((x' ++ [[D.int IntKind.i64 (IntKind.i64.wrap (i + 1)), D.str [108, 111, 110, 103]]]).length + [[D.int IntKind.i64 (IntKind.i64.wrap (i + 1)), D.str [98, 108, 97, 110, 107, 115]]].length) * 24).ble 140737488355328 then
                    (bif ((x' ++ [[D.int IntKind.i64 (IntKind.i64.wrap (i + 1)), D.str [108, 111, 110, 103]]]).length + [[D.int IntKind.i64 (IntKind.i64.wrap (i + 1)), D.str [98, 108, 97, 110, 107, 115]]].length).ble 140737488355328 then
                     ((idx x'1 i).bind fun row18 =>
                      (x'1[i.toNat]?.bind fun row19 =>
                       ((cStr row19 0).bind fun s20 =>
                        ((M.spec_l47Has s20 9).bind fun r26 =>
                         (bif r26 then
                          (bif (((x' ++ [[D.int IntKind.i64 (IntKind.i64.wrap (i + 1)), D.str [108, 111, 110, 103]]] ++ [[D.int IntKind.i64 (IntKind.i64.wrap (i + 1)), D.str [98, 108, 97, 110, 107, 115]]]).length + [[D.int IntKind.i64 (IntKind.i64.wrap (i + 1)), D.str [116, 97, 98]]].length) * 24).ble 140737488355328 then
                           (bif ((x' ++ [[D.int IntKind.i64 (IntKind.i64.wrap (i + 1)), D.str [108, 111, 110, 103]]] ++ [[D.int IntKind.i64 (IntKind.i64.wrap (i + 1)), D.str [98, 108, 97, 110, 107, 115]]]).length + [[D.int IntKind.i64 (IntKind.i64.wrap (i + 1)), D.str [116, 97, 98]]].length).ble 140737488355328 then
                            ((idx x'1 i).bind fun row27 =>
                             (x'1[i.toNat]?.bind fun row28 =>
                              ((cStr row28 0).bind fun s29 =>
                               (bif s29 == [] then
                                (bif i == 0 then
                                 (bif (((x' ++ [[D.int IntKind.i64 (IntKind.i64.wrap (i + 1)), D.str [108, 111, 110, 103]]] ++ [[D.int IntKind.i64 (IntKind.i64.wrap (i + 1)), D.str [98, 108, 97, 110, 107, 115]]] ++ [[D.int IntKind.i64 (IntKind.i64.wrap (i + 1)), D.str [116, 97, 98]]]).length + [[D.int IntKind.i64 (IntKind.i64.wrap (i + 1)), D.str [101, 109, 112, 116, 121]]].length) * 24).ble 140737488355328 then
                                  (bif ((x' ++ [[D.int IntKind.i64 (IntKind.i64.wrap (i + 1)), D.str [108, 111, 110, 103]]] ++ [[D.int IntKind.i64 (IntKind.i64.wrap (i + 1)), D.str [98, 108, 97, 110, 107, 115]]] ++ [[D.int IntKind.i64 (IntKind.i64.wrap (i + 1)), D.str [116, 97, 98]]]).length + [[D.int IntKind.i64 (IntKind.i64.wrap (i + 1)), D.str [101, 109, 112, 116, 121]]].length).ble 140737488355328 then
                                   (kn ((IntKind.i64.wrap (i + 1), x' ++ [[D.int IntKind.i64 (IntKind.i64.wrap (i + 1)), D.str [108, 111, 110, 103]]] ++ [[D.int IntKind.i64 (IntKind.i64.wrap (i + 1)), D.str [98, 108, 97, 110, 107, 115]]] ++ [[D.int IntKind.i64 (IntKind.i64.wrap (i + 1)), D.str [116, 97, 98]]] ++ [[D.int IntKind.i64 (IntKind.i64.wrap (i + 1)), D.str [101, 109, 112, 116, 121]]]))) else none) else none) else
                                 ((idx x'1 (IntKind.i64.wrap (i - 1))).bind fun row30 =>
                                  ((x'1[(IntKind.i64.wrap (i - 1)).toNat]?).bind fun row31 =>
                                   ((cStr row31 0).bind fun s32 =>
                                    (bif s32 == [] then
                                     (bif (((x' ++ [[D.int IntKind.i64 (IntKind.i64.wrap (i + 1)), D.str [108, 111, 110, 103]]] ++ [[D.int IntKind.i64 (IntKind.i64.wrap (i + 1)), D.str [98, 108, 97, 110, 107, 115]]] ++ [[D.int IntKind.i64 (IntKind.i64.wrap (i + 1)), D.str [116, 97, 98]]]).length + [[D.int IntKind.i64 (IntKind.i64.wrap (i + 1)), D.str [101, 109, 112, 116, 121]]].length) * 24).ble 140737488355328 then
                                      (bif ((x' ++ [[D.int IntKind.i64 (IntKind.i64.wrap (i + 1)), D.str [108, 111, 110, 103]]] ++ [[D.int IntKind.i64 (IntKind.i64.wrap (i + 1)), D.str [98, 108, 97, 110, 107, 115]]] ++ [[D.int IntKind.i64 (IntKind.i64.wrap (i + 1)), D.str [116, 97, 98]]]).length + [[D.int IntKind.i64 (IntKind.i64.wrap (i + 1)), D.str [101, 109, 112, 116, 121]]].length).ble 140737488355328 then
                                       (kn ((IntKind.i64.wrap (i + 1), x' ++ [[D.int IntKind.i64 (IntKind.i64.wrap (i + 1)), D.str [108, 111, 110, 103]]] ++ [[D.int IntKind.i64 (IntKind.i64.wrap (i + 1)), D.str [98, 108, 97, 110, 107, 115]]] ++ [[D.int IntKind.i64 (IntKind.i64.wrap (i + 1)), D.str [116, 97, 98]]] ++ [[D.int IntKind.i64 (IntKind.i64.wrap (i + 1)), D.str [101, 109, 112, 116, 121]]]))) else none) else none) else
                                     (kn ((IntKind.i64.wrap (i + 1), x' ++ [[D.int IntKind.i64 (IntKind.i64.wrap (i + 1)), D.str [108, 111, 110, 103]]] ++ [[D.int IntKind.i64 (IntKind.i64.wrap (i + 1)), D.str [98, 108, 97, 110, 107, 115]]] ++ [[D.int IntKind.i64 (IntKind.i64.wrap (i + 1)), D.str [116, 97, 98]]])))))))) else
                                (kn ((IntKind.i64.wrap (i + 1), x' ++ [[D.int IntKind.i64 (IntKind.i64.wrap (i + 1)), D.str [108, 111, 110, 103]]] ++ [[D.int IntKind.i64 (IntKind.i64.wrap (i + 1)), D.str [98, 108, 97, 110, 107, 115]]] ++ [[D.int IntKind.i64 (IntKind.i64.wrap (i + 1)), D.str [116, 97, 98]]]))))))) else none) else none) else
                          ((idx x'1 i).bind fun row33 =>
                           (x'1[i.toNat]?.bind fun row34 =>
                            ((cStr row34 0).bind fun s35 =>
                             (bif s35 == [] then
                              (bif i == 0 then
                               (bif (((x' ++ [[D.int IntKind.i64 (IntKind.i64.wrap (i + 1)), D.str [108, 111, 110, 103]]] ++ [[D.int IntKind.i64 (IntKind.i64.wrap (i + 1)), D.str [98, 108, 97, 110, 107, 115]]]).length + [[D.int IntKind.i64 (IntKind.i64.wrap (i + 1)), D.str [101, 109, 112, 116, 121]]].length) * 24).ble 140737488355328 then
                                (bif ((x' ++ [[D.int IntKind.i64 (IntKind.i64.wrap (i + 1)), D.str [108, 111, 110, 103]]] ++ [[D.int IntKind.i64 (IntKind.i64.wrap (i + 1)), D.str [98, 108, 97, 110, 107, 115]]]).length + [[D.int IntKind.i64 (IntKind.i64.wrap (i + 1)), D.str [101, 109, 112, 116, 121]]].length).ble 140737488355328 then
                                 (kn ((IntKind.i64.wrap (i + 1), x' ++ [[D.int IntKind.i64 (IntKind.i64.wrap (i + 1)), D.str [108, 111, 110, 103]]] ++ [[D.int IntKind.i64 (IntKind.i64.wrap (i + 1)), D.str [98, 108, 97, 110, 107, 115]]] ++ [[D.int IntKind.i64 (IntKind.i64.wrap (i + 1)), D.str [101, 109, 112, 116, 121]]]))) else none) else none) else
                               ((idx x'1 (IntKind.i64.wrap (i - 1))).bind fun row36 =>
                                ((x'1[(IntKind.i64.wrap (i - 1)).toNat]?).bind fun row37 =>
                                 ((cStr row37 0).bind fun s38 =>
                                  (bif s38 == [] then
                                   (bif (((x' ++ [[D.int IntKind.i64 (IntKind.i64.wrap (i + 1)), D.str [108, 111, 110, 103]]] ++ [[D.int IntKind.i64 (IntKind.i64.wrap (i + 1)), D.str [98, 108, 97, 110, 107, 115]]]).length + [[D.int IntKind.i64 (IntKind.i64.wrap (i + 1)), D.str [101, 109, 112, 116, 121]]].length) * 24).ble 140737488355328 then
                                    (bif ((x' ++ [[D.int IntKind.i64 (IntKind.i64.wrap (i + 1)), D.str [108, 111, 110, 103]]] ++ [[D.int IntKind.i64 (IntKind.i64.wrap (i + 1)), D.str [98, 108, 97, 110, 107, 115]]]).length + [[D.int IntKind.i64 (IntKind.i64.wrap (i + 1)), D.str [101, 109, 112, 116, 121]]].length).ble 140737488355328 then
                                     (kn ((IntKind.i64.wrap (i + 1), x' ++ [[D.int IntKind.i64 (IntKind.i64.wrap (i + 1)), D.str [108, 111, 110, 103]]] ++ [[D.int IntKind.i64 (IntKind.i64.wrap (i + 1)), D.str [98, 108, 97, 110, 107, 115]]] ++ [[D.int IntKind.i64 (IntKind.i64.wrap (i + 1)), D.str [101, 109, 112, 116, 121]]]))) else none) else none) else
                                   (kn ((IntKind.i64.wrap (i + 1), x' ++ [[D.int IntKind.i64 (IntKind.i64.wrap (i + 1)), D.str [108, 111, 110, 103]]] ++ [[D.int IntKind.i64 (IntKind.i64.wrap (i + 1)), D.str [98, 108, 97, 110, 107, 115]]])))))))) else
                              (kn ((IntKind.i64.wrap (i + 1), x' ++ [[D.int IntKind.i64 (IntKind.i64.wrap (i + 1)), D.str [108, 111, 110, 103]]] ++ [[D.int IntKind.i64 (IntKind.i64.wrap (i + 1)), D.str [98, 108, 97, 110, 107, 115]]])))))))))))) else none) else none) else
                   ((idx x'1 i).bind fun row39 =>
                    (x'1[i.toNat]?.bind fun row40 =>
                     ((cStr row40 0).bind fun s41 =>
                      ((M.spec_l47Has s41 9).bind fun r42 =>
                       (bif r42 then
                        (bif (((x' ++ [[D.int IntKind.i64 (IntKind.i64.wrap (i + 1)), D.str [108, 111, 110, 103]]]).length + [[D.int IntKind.i64 (IntKind.i64.wrap (i + 1)), D.str [116, 97, 98]]].length) * 24).ble 140737488355328 then
                         (bif ((x' ++ [[D.int IntKind.i64 (IntKind.i64.wrap (i + 1)), D.str [108, 111, 110, 103]]]).length + [[D.int IntKind.i64 (IntKind.i64.wrap (i + 1)), D.str [116, 97, 98]]].length).ble 140737488355328 then
                          ((idx x'1 i).bind fun row43 =>
                           (x'1[i.toNat]?.bind fun row44 =>
                            ((cStr row44 0).bind fun s45 =>
                             (bif s45 == [] then
                              (bif i == 0 then
                               (bif (((x' ++ [[D.int IntKind.i64 (IntKind.i64.wrap (i + 1)), D.str [108, 111, 110, 103]]] ++ [[D.int IntKind.i64 (IntKind.i64.wrap (i + 1)), D.str [116, 97, 98]]]).length + [[D.int IntKind.i64 (IntKind.i64.wrap (i + 1)), D.str [101, 109, 112, 116, 121]]].length) * 24).ble 140737488355328 then
                                (bif ((x' ++ [[D.int IntKind.i64 (IntKind.i64.wrap (i + 1)), D.str [108, 111, 110, 103]]] ++ [[D.int IntKind.i64 (IntKind.i64.wrap (i + 1)), D.str [116, 97, 98]]]).length + [[D.int IntKind.i64 (IntKind.i64.wrap (i + 1)), D.str [101, 109, 112, 116, 121]]].length).ble 140737488355328 then
                                 (kn ((IntKind.i64.wrap (i + 1), x' ++ [[D.int IntKind.i64 (IntKind.i64.wrap (i + 1)), D.str [108, 111, 110, 103]]] ++ [[D.int IntKind.i64 (IntKind.i64.wrap (i + 1)), D.str [116, 97, 98]]] ++ [[D.int IntKind.i64 (IntKind.i64.wrap (i + 1)), D.str [101, 109, 112, 116, 121]]]))) else none) else none) else
                               ((idx x'1 (IntKind.i64.wrap (i - 1))).bind fun row46 =>
                                ((x'1[(IntKind.i64.wrap (i - 1)).toNat]?).bind fun row47 =>
                                 ((cStr row47 0).bind fun s48 =>
                                  (bif s48 == [] then
                                   (bif (((x' ++ [[D.int IntKind.i64 (IntKind.i64.wrap (i + 1)), D.str [108, 111, 110, 103]]] ++ [[D.int IntKind.i64 (IntKind.i64.wrap (i + 1)), D.str [116, 97, 98]]]).length + [[D.int IntKind.i64 (IntKind.i64.wrap (i + 1)), D.str [101, 109, 112, 116, 121]]].length) * 24).ble 140737488355328 then
                                    (bif ((x' ++ [[D.int IntKind.i64 (IntKind.i64.wrap (i + 1)), D.str [108, 111, 110, 103]]] ++ [[D.int IntKind.i64 (IntKind.i64.wrap (i + 1)), D.str [116, 97, 98]]]).length + [[D.int IntKind.i64 (IntKind.i64.wrap (i + 1)), D.str [101, 109, 112, 116, 121]]].length).ble 140737488355328 then
                                     (kn ((IntKind.i64.wrap (i + 1), x' ++ [[D.int IntKind.i64 (IntKind.i64.wrap (i + 1)), D.str [108, 111, 110, 103]]] ++ [[D.int IntKind.i64 (IntKind.i64.wrap (i + 1)), D.str [116, 97, 98]]] ++ [[D.int IntKind.i64 (IntKind.i64.wrap (i + 1)), D.str [101, 109, 112, 116, 121]]]))) else none) else none) else
                                   (kn ((IntKind.i64.wrap (i + 1), x' ++ [[D.int IntKind.i64 (IntKind.i64.wrap (i + 1)), D.str [108, 111, 110, 103]]] ++ [[D.int IntKind.i64 (IntKind.i64.wrap (i + 1)), D.str [116, 97, 98]]])))))))) else
                              (kn ((IntKind.i64.wrap (i + 1), x' ++ [[D.int IntKind.i64 (IntKind.i64.wrap (i + 1)), D.str [108, 111, 110, 103]]] ++ [[D.int IntKind.i64 (IntKind.i64.wrap (i + 1)), D.str [116, 97, 98]]]))))))) else none) else none) else
                        ((idx x'1 i).bind fun row49 =>
                         (x'1[i.toNat]?.bind fun row50 =>
                          ((cStr row50 0).bind fun s51 =>
                           (bif s51 == [] then
                            (bif i == 0 then
                             (bif (((x' ++ [[D.int IntKind.i64 (IntKind.i64.wrap (i + 1)), D.str [108, 111, 110, 103]]]).length + [[D.int IntKind.i64 (IntKind.i64.wrap (i + 1)), D.str [101, 109, 112, 116, 121]]].length) * 24).ble 140737488355328 then
                              (bif ((x' ++ [[D.int IntKind.i64 (IntKind.i64.wrap (i + 1)), D.str [108, 111, 110, 103]]]).length + [[D.int IntKind.i64 (IntKind.i64.wrap (i + 1)), D.str [101, 109, 112, 116, 121]]].length).ble 140737488355328 then
                               (kn ((IntKind.i64.wrap (i + 1), x' ++ [[D.int IntKind.i64 (IntKind.i64.wrap (i + 1)), D.str [108, 111, 110, 103]]] ++ [[D.int IntKind.i64 (IntKind.i64.wrap (i + 1)), D.str [101, 109, 112, 116, 121]]]))) else none) else none) else
                             ((idx x'1 (IntKind.i64.wrap (i - 1))).bind fun row52 =>
                              ((x'1[(IntKind.i64.wrap (i - 1)).toNat]?).bind fun row53 =>
                               ((cStr row53 0).bind fun s54 =>
                                (bif s54 == [] then
                                 (bif (((x' ++ [[D.int IntKind.i64 (IntKind.i64.wrap (i + 1)), D.str [108, 111, 110, 103]]]).length + [[D.int IntKind.i64 (IntKind.i64.wrap (i + 1)), D.str [101, 109, 112, 116, 121]]].length) * 24).ble 140737488355328 then
                                  (bif ((x' ++ [[D.int IntKind.i64 (IntKind.i64.wrap (i + 1)), D.str [108, 111, 110, 103]]]).length + [[D.int IntKind.i64 (IntKind.i64.wrap (i + 1)), D.str [101, 109, 112, 116, 121]]].length).ble 140737488355328 then
                                   (kn ((IntKind.i64.wrap (i + 1), x' ++ [[D.int IntKind.i64 (IntKind.i64.wrap (i + 1)), D.str [108, 111, 110, 103]]] ++ [[D.int IntKind.i64 (IntKind.i64.wrap (i + 1)), D.str [101, 109, 112, 116, 121]]]))) else none) else none) else
                                 (kn ((IntKind.i64.wrap (i + 1), x' ++ [[D.int IntKind.i64 (IntKind.i64.wrap (i + 1)), D.str [108, 111, 110, 103]]])))))))) else
                            (kn ((IntKind.i64.wrap (i + 1), x' ++ [[D.int IntKind.i64 (IntKind.i64.wrap (i + 1)), D.str [108, 111, 110, 103]]])))))))))))))))))))) else none) else none) else
         ((idx x'1 i).bind fun row55 =>
          (x'1[i.toNat]?.bind fun row56 =>
           ((cStr row56 0).bind fun s57 =>
            ((M.spec_l47End s57).bind fun r58 =>
             ((idx x'1 i).bind fun row59 =>
              (x'1[i.toNat]?.bind fun row60 =>
               ((cStr row60 0).bind fun s61 =>
                (bif decide (r58 < (↑s61.length : Int)) then
                 (bif ((x'.length + [[D.int IntKind.i64 (IntKind.i64.wrap (i + 1)), D.str [98, 108, 97, 110, 107, 115]]].length) * 24).ble 140737488355328 then
                  (bif (x'.length + [[D.int IntKind.i64 (IntKind.i64.wrap (i + 1)), D.str [98, 108, 97, 110, 107, 115]]].length).ble 140737488355328 then
                   ((idx x'1 i).bind fun row62 =>
                    (x'1[i.toNat]?.bind fun row63 =>
                     ((cStr row63 0).bind fun s64 =>
                      ((M.spec_l47Has s64 9).bind fun r65 =>
                       (bif r65 then
                        (bif (((x' ++ [[D.int IntKind.i64 (IntKind.i64.wrap (i + 1)), D.str [98, 108, 97, 110, 107, 115]]]).length + [[D.int IntKind.i64 (IntKind.i64.wrap (i + 1)), D.str [116, 97, 98]]].length) * 24).ble 140737488355328 then
                         (bif ((x' ++ [[D.int IntKind.i64 (IntKind.i64.wrap (i + 1)), D.str [98, 108, 97, 110, 107, 115]]]).length + [[D.int IntKind.i64 (IntKind.i64.wrap (i + 1)), D.str [116, 97, 98]]].length).ble 140737488355328 then
                          ((idx x'1 i).bind fun row66 =>
                           (x'1[i.toNat]?.bind fun row67 =>
                            ((cStr row67 0).bind fun s68 =>
                             (bif s68 == [] then
                              (bif i == 0 then
                               (bif (((x' ++ [[D.int IntKind.i64 (IntKind.i64.wrap (i + 1)), D.str [98, 108, 97, 110, 107, 115]]] ++ [[D.int IntKind.i64 (IntKind.i64.wrap (i + 1)), D.str [116, 97, 98]]]).length + [[D.int IntKind.i64 (IntKind.i64.wrap (i + 1)), D.str [101, 109, 112, 116, 121]]].length) * 24).ble 140737488355328 then
                                (bif ((x' ++ [[D.int IntKind.i64 (IntKind.i64.wrap (i + 1)), D.str [98, 108, 97, 110, 107, 115]]] ++ [[D.int IntKind.i64 (IntKind.i64.wrap (i + 1)), D.str [116, 97, 98]]]).length + [[D.int IntKind.i64 (IntKind.i64.wrap (i + 1)), D.str [101, 109, 112, 116, 121]]].length).ble 140737488355328 then
                                 (kn ((IntKind.i64.wrap (i + 1), x' ++ [[D.int IntKind.i64 (IntKind.i64.wrap (i + 1)), D.str [98, 108, 97, 110, 107, 115]]] ++ [[D.int IntKind.i64 (IntKind.i64.wrap (i + 1)), D.str [116, 97, 98]]] ++ [[D.int IntKind.i64 (IntKind.i64.wrap (i + 1)), D.str [101, 109, 112, 116, 121]]]))) else none) else none) else
                               ((idx x'1 (IntKind.i64.wrap (i - 1))).bind fun row69 =>
                                ((x'1[(IntKind.i64.wrap (i - 1)).toNat]?).bind fun row70 =>
                                 ((cStr row70 0).bind fun s71 =>
                                  (bif s71 == [] then
                                   (bif (((x' ++ [[D.int IntKind.i64 (IntKind.i64.wrap (i + 1)), D.str [98, 108, 97, 110, 107, 115]]] ++ [[D.int IntKind.i64 (IntKind.i64.wrap (i + 1)), D.str [116, 97, 98]]]).length + [[D.int IntKind.i64 (IntKind.i64.wrap (i + 1)), D.str [101, 109, 112, 116, 121]]].length) * 24).ble 140737488355328 then
                                    (bif ((x' ++ [[D.int IntKind.i64 (IntKind.i64.wrap (i + 1)), D.str [98, 108, 97, 110, 107, 115]]] ++ [[D.int IntKind.i64 (IntKind.i64.wrap (i + 1)), D.str [116, 97, 98]]]).length + [[D.int IntKind.i64 (IntKind.i64.wrap (i + 1)), D.str [101, 109, 112, 116, 121]]].length).ble 140737488355328 then
                                     (kn ((IntKind.i64.wrap (i + 1), x' ++ [[D.int IntKind.i64 (IntKind.i64.wrap (i + 1)), D.str [98, 108, 97, 110, 107, 115]]] ++ [[D.int IntKind.i64 (IntKind.i64.wrap (i + 1)), D.str [116, 97, 98]]] ++ [[D.int IntKind.i64 (IntKind.i64.wrap (i + 1)), D.str [101, 109, 112, 116, 121]]]))) else none) else none) else
                                   (kn ((IntKind.i64.wrap (i + 1), x' ++ [[D.int IntKind.i64 (IntKind.i64.wrap (i + 1)), D.str [98, 108, 97, 110, 107, 115]]] ++ [[D.int IntKind.i64 (IntKind.i64.wrap (i + 1)), D.str [116, 97, 98]]])))))))) else
                              (kn ((IntKind.i64.wrap (i + 1), x' ++ [[D.int IntKind.i64 (IntKind.i64.wrap (i + 1)), D.str [98, 108, 97, 110, 107, 115]]] ++ [[D.int IntKind.i64 (IntKind.i64.wrap (i + 1)), D.str [116, 97, 98]]]))))))) else none) else none) else
                        ((idx x'1 i).bind fun row72 =>
                         (x'1[i.toNat]?.bind fun row73 =>
                          ((cStr row73 0).bind fun s74 =>
                           (bif s74 == [] then
                            (bif i == 0 then
                             (bif (((x' ++ [[D.int IntKind.i64 (IntKind.i64.wrap (i + 1)), D.str [98, 108, 97, 110, 107, 115]]]).length + [[D.int IntKind.i64 (IntKind.i64.wrap (i + 1)), D.str [101, 109, 112, 116, 121]]].length) * 24).ble 140737488355328 then
                              (bif ((x' ++ [[D.int IntKind.i64 (IntKind.i64.wrap (i + 1)), D.str [98, 108, 97, 110, 107, 115]]]).length + [[D.int IntKind.i64 (IntKind.i64.wrap (i + 1)), D.str [101, 109, 112, 116, 121]]].length).ble 140737488355328 then
                               (kn ((IntKind.i64.wrap (i + 1), x' ++ [[D.int IntKind.i64 (IntKind.i64.wrap (i + 1)), D.str [98, 108, 97, 110, 107, 115]]] ++ [[D.int IntKind.i64 (IntKind.i64.wrap (i + 1)), D.str [101, 109, 112, 116, 121]]]))) else none) else none) else
                             ((idx x'1 (IntKind.i64.wrap (i - 1))).bind fun row75 =>
                              ((x'1[(IntKind.i64.wrap (i - 1)).toNat]?).bind fun row76 =>
                               ((cStr row76 0).bind fun s77 =>
                                (bif s77 == [] then
                                 (bif (((x' ++ [[D.int IntKind.i64 (IntKind.i64.wrap (i + 1)), D.str [98, 108, 97, 110, 107, 115]]]).length + [[D.int IntKind.i64 (IntKind.i64.wrap (i + 1)), D.str [101, 109, 112, 116, 121]]].length) * 24).ble 140737488355328 then
                                  (bif ((x' ++ [[D.int IntKind.i64 (IntKind.i64.wrap (i + 1)), D.str [98, 108, 97, 110, 107, 115]]]).length + [[D.int IntKind.i64 (IntKind.i64.wrap (i + 1)), D.str [101, 109, 112, 116, 121]]].length).ble 140737488355328 then
                                   (kn ((IntKind.i64.wrap (i + 1), x' ++ [[D.int IntKind.i64 (IntKind.i64.wrap (i + 1)), D.str [98, 108, 97, 110, 107, 115]]] ++ [[D.int IntKind.i64 (IntKind.i64.wrap (i + 1)), D.str [101, 109, 112, 116, 121]]]))) else none) else none) else
                                 (kn ((IntKind.i64.wrap (i + 1), x' ++ [[D.int IntKind.i64 (IntKind.i64.wrap (i + 1)), D.str [98, 108, 97, 110, 107, 115]]])))))))) else
                            (kn ((IntKind.i64.wrap (i + 1), x' ++ [[D.int IntKind.i64 (IntKind.i64.wrap (i + 1)), D.str [98, 108, 97, 110, 107, 115]]])))))))))))) else none) else none) else
                 ((idx x'1 i).bind fun row78 =>
                  (x'1[i.toNat]?.bind fun row79 =>
                   ((cStr row79 0).bind fun s80 =>
                    ((M.spec_l47Has s80 9).bind fun r81 =>
                     (bif r81 then
                      (bif ((x'.length + [[D.int IntKind.i64 (IntKind.i64.wrap (i + 1)), D.str [116, 97, 98]]].length) * 24).ble 140737488355328 then
                       (bif (x'.length + [[D.int IntKind.i64 (IntKind.i64.wrap (i + 1)), D.str [116, 97, 98]]].length).ble 140737488355328 then
                        ((idx x'1 i).bind fun row82 =>
                         (x'1[i.toNat]?.bind fun row83 =>
                          ((cStr row83 0).bind fun s84 =>
                           (bif s84 == [] then
                            (bif i == 0 then
                             (bif (((x' ++ [[D.int IntKind.i64 (IntKind.i64.wrap (i + 1)), D.str [116, 97, 98]]]).length + [[D.int IntKind.i64 (IntKind.i64.wrap (i + 1)), D.str [101, 109, 112, 116, 121]]].length) * 24).ble 140737488355328 then
                              (bif ((x' ++ [[D.int IntKind.i64 (IntKind.i64.wrap (i + 1)), D.str [116, 97, 98]]]).length + [[D.int IntKind.i64 (IntKind.i64.wrap (i + 1)), D.str [101, 109, 112, 116, 121]]].length).ble 140737488355328 then
                               (kn ((IntKind.i64.wrap (i + 1), x' ++ [[D.int IntKind.i64 (IntKind.i64.wrap (i + 1)), D.str [116, 97, 98]]] ++ [[D.int IntKind.i64 (IntKind.i64.wrap (i + 1)), D.str [101, 109, 112, 116, 121]]]))) else none) else none) else
                             ((idx x'1 (IntKind.i64.wrap (i - 1))).bind fun row85 =>
                              ((x'1[(IntKind.i64.wrap (i - 1)).toNat]?).bind fun row86 =>
                               ((cStr row86 0).bind fun s87 =>
                                (bif s87 == [] then
                                 (bif (((x' ++ [[D.int IntKind.i64 (IntKind.i64.wrap (i + 1)), D.str [116, 97, 98]]]).length + [[D.int IntKind.i64 (IntKind.i64.wrap (i + 1)), D.str [101, 109, 112, 116, 121]]].length) * 24).ble 140737488355328 then
                                  (bif ((x' ++ [[D.int IntKind.i64 (IntKind.i64.wrap (i + 1)), D.str [116, 97, 98]]]).length + [[D.int IntKind.i64 (IntKind.i64.wrap (i + 1)), D.str [101, 109, 112, 116, 121]]].length).ble 140737488355328 then
                                   (kn ((IntKind.i64.wrap (i + 1), x' ++ [[D.int IntKind.i64 (IntKind.i64.wrap (i + 1)), D.str [116, 97, 98]]] ++ [[D.int IntKind.i64 (IntKind.i64.wrap (i + 1)), D.str [101, 109, 112, 116, 121]]]))) else none) else none) else
                                 (kn ((IntKind.i64.wrap (i + 1), x' ++ [[D.int IntKind.i64 (IntKind.i64.wrap (i + 1)), D.str [116, 97, 98]]])))))))) else
                            (kn ((IntKind.i64.wrap (i + 1), x' ++ [[D.int IntKind.i64 (IntKind.i64.wrap (i + 1)), D.str [116, 97, 98]]]))))))) else none) else none) else
                      ((idx x'1 i).bind fun row88 =>
                       (x'1[i.toNat]?.bind fun row89 =>
                        ((cStr row89 0).bind fun s90 =>
                         (bif s90 == [] then
                          (bif i == 0 then
                           (bif ((x'.length + [[D.int IntKind.i64 (IntKind.i64.wrap (i + 1)), D.str [101, 109, 112, 116, 121]]].length) * 24).ble 140737488355328 then
                            (bif (x'.length + [[D.int IntKind.i64 (IntKind.i64.wrap (i + 1)), D.str [101, 109, 112, 116, 121]]].length).ble 140737488355328 then
                             (kn ((IntKind.i64.wrap (i + 1), x' ++ [[D.int IntKind.i64 (IntKind.i64.wrap (i + 1)), D.str [101, 109, 112, 116, 121]]]))) else none) else none) else
                           ((idx x'1 (IntKind.i64.wrap (i - 1))).bind fun row91 =>
                            ((x'1[(IntKind.i64.wrap (i - 1)).toNat]?).bind fun row92 =>
                             ((cStr row92 0).bind fun s93 =>
                              (bif s93 == [] then
                               (bif ((x'.length + [[D.int IntKind.i64 (IntKind.i64.wrap (i + 1)), D.str [101, 109, 112, 116, 121]]].length) * 24).ble 140737488355328 then
                                (bif (x'.length + [[D.int IntKind.i64 (IntKind.i64.wrap (i + 1)), D.str [101, 109, 112, 116, 121]]].length).ble 140737488355328 then
                                 (kn ((IntKind.i64.wrap (i + 1), x' ++ [[D.int IntKind.i64 (IntKind.i64.wrap (i + 1)), D.str [101, 109, 112, 116, 121]]]))) else none) else none) else (kn ((IntKind.i64.wrap (i + 1), x')))))))) else (kn ((IntKind.i64.wrap (i + 1), x')))))))))))))))))))))))) else (ke ((i, decide (i < (↑x'1.length : Int)), x')))
noncomputable def M.spec_StyleOf_l4_b (s' : List UInt8) (w : Int) (x'1 : List Row) (s : Int × List Row) : Option ((Int × List Row) ⊕ (Int × Bool × List Row)) := M.spec_StyleOf_l4_C s' w x'1 s (fun s => some (.inl s)) (fun t => some (.inr t))
noncomputable def M.spec_StyleOf_l4 (s' : List UInt8) (w : Int) (x'1 : List Row) (s : Int × List Row) : Option (Int × Bool × List Row) := loopM (M.spec_StyleOf_l4_b s' w x'1) s
theorem M.spec_StyleOf_l4_n {R : Type} (s' : List UInt8) (w : Int) (x'1 : List Row) (s : Int × List Row) (kn : Int × List Row → Option R) (ke : Int × Bool × List Row → Option R) : M.spec_StyleOf_l4_C s' w x'1 s kn ke = (M.spec_StyleOf_l4_b s' w x'1 s).bind fun r => match r with | .inl s => kn s | .inr t => ke t := by
  obtain ⟨i, x'⟩ := s
  all_goals
    simp only [M.spec_StyleOf_l4_b, M.spec_StyleOf_l4_C, bif_bind, bind_bind, some_bind, none_bind, sumE_bind, optE_bind, letE_bind]
def A.spec_StyleOf_l4 (s' : List UInt8) (w : Int) (x'1 : List Row) : Alt (Ex × St) := .leaf (Int × Bool × List Row) (fun t => (Ex.exit 0, { tm := [(0, V.d (D.str s')), (1, V.d (D.int IntKind.i64 w)), (5, V.own 300000 0), (6, V.own 300001 0), (7, V.d (D.int IntKind.i64 t.fst)), (14, V.d (D.bool t.snd.fst))], mem := [(300000, Cell.arr false true 0 2 t.snd.snd), (300001, Cell.arr false true 0 1 x'1)] }))
def T.spec_StyleOf_l4 (s' : List UInt8) (w : Int) (x'1 : List Row) (s : Int × List Row) : St := match s with
  | (i, x') => { tm := [(0, V.d (D.str s')), (1, V.d (D.int IntKind.i64 w)), (5, V.own 300000 0), (6, V.own 300001 0), (7, V.d (D.int IntKind.i64 i))], mem := [(300000, Cell.arr false true 0 2 x'), (300001, Cell.arr false true 0 1 x'1)] }
noncomputable def K.spec_StyleOf_l4 : KonC := (kcons 10 (P.spec_l47End M.spec_l47End pnil) (kcons 11 (P.spec_l47Has M.spec_l47Has pnil) knil))
noncomputable def L.spec_StyleOf_l4 : LoopC := lnil
theorem E.spec_StyleOf_l4 {R : Type} (s' : List UInt8) (w : Int) (x'1 : List Row) (s : Int × List Row) (k : Ex → St → Option R) : denC X0 (K.spec_StyleOf_l4) (L.spec_StyleOf_l4) 4 (loopCode X0.P 4 4) (T.spec_StyleOf_l4 s' w x'1 s) k = M.spec_StyleOf_l4_C s' w x'1 s (fun s => k .normal (T.spec_StyleOf_l4 s' w x'1 s)) (fun t => (A.spec_StyleOf_l4 s' w x'1).go t fun r => k r.1 r.2) := by
  obtain ⟨i, x'⟩ := s
  all_goals kernel_rfl
theorem LC.spec_StyleOf_l4 : loops (loopCode X0.P 4 4) = [] := by kernel_rfl
noncomputable def PL.spec_StyleOf_l4 (S : St) : ResA (Ex × St) := match S with
  | { tm := [(0, V.d (D.str s')), (1, V.d (D.int IntKind.i64 w)), (5, V.own 300000 0), (6, V.own 300001 0), (7, V.d (D.int IntKind.i64 i))], mem := [(300000, Cell.arr false true 0 2 x'), (300001, Cell.arr false true 0 1 x'1)] } => ⟨A.spec_StyleOf_l4 s' w x'1, M.spec_StyleOf_l4 s' w x'1 ((i, x'))⟩
  | _ => .none
theorem C.spec_StyleOf_l4 : LpOk X0 4 4 (loopCode X0.P 4 4) (PL.spec_StyleOf_l4) := by
  refine ⟨by kernel_rfl, fun S r hr => ?_⟩
  unfold PL.spec_StyleOf_l4 at hr
  split at hr
  · obtain ⟨x, hx, rfl⟩ := ResA.val_some hr
    exact lp_sound (K := K.spec_StyleOf_l4) (L := L.spec_StyleOf_l4) (b := M.spec_StyleOf_l4_b _ _ _) (tm := T.spec_StyleOf_l4 _ _ _) (tx := (A.spec_StyleOf_l4 _ _ _).enc) (kcons_ok (P.spec_l47End_ok C.spec_l47End pnil_ok) (kcons_ok (P.spec_l47Has_ok C.spec_l47Has pnil_ok) knil_ok)) (by rw [LC.spec_StyleOf_l4]; exact LOk.nil) (fun s => by rw [E.spec_StyleOf_l4, M.spec_StyleOf_l4_n]; congr 1; funext r; cases r <;> first | rfl | exact Alt.go_eq _ _ _) (by intro t; intro h; cases h) hx (s := (_, _))
  · cases hr
noncomputable def M.spec_StyleOf_C {R : Type} (s' : List UInt8) (w : Int) (k : List Row → Option R) : Option R :=
  (M.spec_LinesOf s').bind fun r4 =>
   ((M.spec_StyleOf_l4 s' w r4 ((0, []))).bind fun t94 =>
    (bif decide ((↑s'.length : Int) > 0) then
     ((idx s' (IntKind.i64.wrap ((↑s'.length : Int) - 1))).bind fun c95 =>
      (bif (↑c95.toNat : Int) != 10 then
       (bif ((t94.snd.snd.length + [[D.int IntKind.i64 (↑r4.length : Int), D.str [101, 110, 100]]].length) * 24).ble 140737488355328 then
        (bif (t94.snd.snd.length + [[D.int IntKind.i64 (↑r4.length : Int), D.str [101, 110, 100]]].length).ble 140737488355328 then
         (bif flatRows (t94.snd.snd ++ [[D.int IntKind.i64 (↑r4.length : Int), D.str [101, 110, 100]]]) then (k (t94.snd.snd ++ [[D.int IntKind.i64 (↑r4.length : Int), D.str [101, 110, 100]]])) else none) else none) else none) else (bif flatRows t94.snd.snd then (k t94.snd.snd) else none))) else (bif flatRows t94.snd.snd then (k t94.snd.snd) else none)))
noncomputable def M.spec_StyleOf (s' : List UInt8) (w : Int) : Option (List Row) := M.spec_StyleOf_C s' w some
theorem M.spec_StyleOf_n {R : Type} (s' : List UInt8) (w : Int) (k : List Row → Option R) : M.spec_StyleOf_C s' w k = (M.spec_StyleOf_C s' w some).bind k := by
  simp only [M.spec_StyleOf_C, bif_bind, bind_bind, some_bind, none_bind, sumE_bind, optE_bind, letE_bind]
noncomputable def K.spec_StyleOf : KonC := (kcons 9 (P.spec_LinesOf M.spec_LinesOf pnil) knil)
noncomputable def L.spec_StyleOf : LoopC := (lcons 4 (PL.spec_StyleOf_l4) lnil)
theorem E.spec_StyleOf {R : Type} (s' : List UInt8) (w : Int) (k : List Row → List Cell → Option R) : bodyC X0 (K.spec_StyleOf) (L.spec_StyleOf) 4 [V.d (D.str s'), V.d (D.int IntKind.i64 w)] [] k = M.spec_StyleOf_C s' w (fun r => k [[D.sl true 2 r]] []) := by kernel_rfl
theorem LC.spec_StyleOf : loops (codeOf X0.P 4) = [loopCode X0.P 4 4] := by kernel_rfl
theorem C.spec_StyleOf : H.spec_StyleOf (M.spec_StyleOf) := by
  intro s' w r h
  exact fn_sound (enc := fun r => ([[D.sl true 2 r]], [])) (K := K.spec_StyleOf) (L := L.spec_StyleOf) (by kernel_rfl) (kcons_ok (P.spec_LinesOf_ok C.spec_LinesOf pnil_ok) knil_ok) (by rw [LC.spec_StyleOf]; exact (LOk.cons (LpOk.at (C.spec_StyleOf_l4) (fun _ => rfl)) LOk.nil)) (by rw [E.spec_StyleOf, M.spec_StyleOf_n] <;> rfl) h

/-! strings_Split (a primitive) -/
def H.strings_Split (o : List UInt8 → List UInt8 → Option (List Row)) : Prop := ∀ (s' : List UInt8) (sep : List UInt8) (r : List Row), o s' sep = some r → call X0 20 [V.d (D.str s'), V.d (D.str sep)] [] = some ([[D.sl true 1 r]], [])
def P.strings_Split (o : List UInt8 → List UInt8 → Option (List Row)) (q : List V → List Cell → Res (List Row × List Cell)) (a : List V) (c : List Cell) : Res (List Row × List Cell) := match a, c with
  | [V.d (D.str s'), V.d (D.str sep)], [] => ⟨List Row, o s' sep, fun r => ([[D.sl true 1 r]], [])⟩
  | a, c => q a c
theorem P.strings_Split_ok {o : List UInt8 → List UInt8 → Option (List Row)} {q : List V → List Cell → Res (List Row × List Cell)} (h : H.strings_Split o) (hq : FnOk X0 20 q) : FnOk X0 20 (P.strings_Split o q) := by
  intro a c r hr
  unfold P.strings_Split at hr
  split at hr
  · obtain ⟨x, hx, rfl⟩ := Res.val_some hr
    exact h _ _ x hx
  · exact hq _ _ _ hr
theorem C.strings_Split : H.strings_Split M.strings_Split := fun s' sep r h => call_of_prim (p := Prim.strings_Split) (by kernel_rfl) (by show Option.map _ (M.strings_Split s' sep) = _; rw [h]; rfl)

/-! impl_LinesOf -/
def H.impl_LinesOf (o : List UInt8 → Option (List Row)) : Prop := ∀ (s' : List UInt8) (r : List Row), o s' = some r → call X0 12 [V.d (D.str s')] [] = some ([[D.sl true 1 r]], [])
def P.impl_LinesOf (o : List UInt8 → Option (List Row)) (q : List V → List Cell → Res (List Row × List Cell)) (a : List V) (c : List Cell) : Res (List Row × List Cell) := match a, c with
  | [V.d (D.str s')], [] => ⟨List Row, o s', fun r => ([[D.sl true 1 r]], [])⟩
  | a, c => q a c
theorem P.impl_LinesOf_ok {o : List UInt8 → Option (List Row)} {q : List V → List Cell → Res (List Row × List Cell)} (h : H.impl_LinesOf o) (hq : FnOk X0 12 q) : FnOk X0 12 (P.impl_LinesOf o q) := by
  intro a c r hr
  unfold P.impl_LinesOf at hr
  split at hr
  · obtain ⟨x, hx, rfl⟩ := Res.val_some hr
    exact h _ x hx
  · exact hq _ _ _ hr
noncomputable def M.impl_LinesOf_C {R : Type} (s' : List UInt8) (k : List Row → Option R) : Option R :=
  (M.strings_Split s' [10]).bind fun r97 =>
   ((idx r97 (IntKind.i64.wrap ((↑r97.length : Int) - 1))).bind fun row98 =>
    ((r97[(IntKind.i64.wrap ((↑r97.length : Int) - 1)).toNat]?).bind fun row99 =>
     ((cStr row99 0).bind fun s100 =>
      (bif s100 == [] then
       (bif decide (0 ≤ IntKind.i64.wrap ((↑r97.length : Int) - 1)) && decide (IntKind.i64.wrap ((↑r97.length : Int) - 1) ≤ (↑r97.length : Int)) then
        (bif flatRows (List.take (IntKind.i64.wrap ((↑r97.length : Int) - 1)).toNat r97) then (k (List.take (IntKind.i64.wrap ((↑r97.length : Int) - 1)).toNat r97)) else none) else none) else (bif flatRows r97 then (k r97) else none)))))
noncomputable def M.impl_LinesOf (s' : List UInt8) : Option (List Row) := M.impl_LinesOf_C s' some
theorem M.impl_LinesOf_n {R : Type} (s' : List UInt8) (k : List Row → Option R) : M.impl_LinesOf_C s' k = (M.impl_LinesOf_C s' some).bind k := by
  simp only [M.impl_LinesOf_C, bif_bind, bind_bind, some_bind, none_bind, sumE_bind, optE_bind, letE_bind]
noncomputable def K.impl_LinesOf : KonC := (kcons 20 (P.strings_Split M.strings_Split pnil) knil)
noncomputable def L.impl_LinesOf : LoopC := lnil
theorem E.impl_LinesOf {R : Type} (s' : List UInt8) (k : List Row → List Cell → Option R) : bodyC X0 (K.impl_LinesOf) (L.impl_LinesOf) 12 [V.d (D.str s')] [] k = M.impl_LinesOf_C s' (fun r => k [[D.sl true 1 r]] []) := by kernel_rfl
theorem LC.impl_LinesOf : loops (codeOf X0.P 12) = [] := by kernel_rfl
theorem C.impl_LinesOf : H.impl_LinesOf (M.impl_LinesOf) := by
  intro s' r h
  exact fn_sound (enc := fun r => ([[D.sl true 1 r]], [])) (K := K.impl_LinesOf) (L := L.impl_LinesOf) (by kernel_rfl) (kcons_ok (P.strings_Split_ok C.strings_Split pnil_ok) knil_ok) (by rw [LC.impl_LinesOf]; exact LOk.nil) (by rw [E.impl_LinesOf, M.impl_LinesOf_n] <;> rfl) h

/-! impl_StyleOf_c1 -/
def H.impl_StyleOf_c1 (o : Bool → List UInt8 → List Row → Int → Option (List Row × Int)) : Prop := ∀ (is : Bool) (what : List UInt8) (c : List Row) (c1 : Int) (r : List Row × Int), o is what c c1 = some r → call X0 13 [V.d (D.bool is), V.d (D.str what), V.ptr 100000 0, V.ptr 100001 0] [Cell.box 22 [V.d (D.sl true 2 c)], Cell.box 3 [V.d (D.int IntKind.i64 c1)]] = some ([], [Cell.box 22 [V.d (D.sl true 2 r.fst)], Cell.box 3 [V.d (D.int IntKind.i64 r.snd)]])
def P.impl_StyleOf_c1 (o : Bool → List UInt8 → List Row → Int → Option (List Row × Int)) (q : List V → List Cell → Res (List Row × List Cell)) (a : List V) (c : List Cell) : Res (List Row × List Cell) := match a, c with
  | [V.d (D.bool is), V.d (D.str what), V.ptr 100000 0, V.ptr 100001 0], [Cell.box 22 [V.d (D.sl true 2 c)], Cell.box 3 [V.d (D.int IntKind.i64 c1)]] => ⟨List Row × Int, o is what c c1, fun r => ([], [Cell.box 22 [V.d (D.sl true 2 r.fst)], Cell.box 3 [V.d (D.int IntKind.i64 r.snd)]])⟩
  | a, c => q a c
theorem P.impl_StyleOf_c1_ok {o : Bool → List UInt8 → List Row → Int → Option (List Row × Int)} {q : List V → List Cell → Res (List Row × List Cell)} (h : H.impl_StyleOf_c1 o) (hq : FnOk X0 13 q) : FnOk X0 13 (P.impl_StyleOf_c1 o q) := by
  intro a c r hr
  unfold P.impl_StyleOf_c1 at hr
  split at hr
  · obtain ⟨x, hx, rfl⟩ := Res.val_some hr
    exact h _ _ _ _ x hx
  · exact hq _ _ _ hr
noncomputable def M.impl_StyleOf_c1_C {R : Type} (is : Bool) (what : List UInt8) (c : List Row) (c1 : Int) (k : List Row × Int → Option R) : Option R :=
  bif is then
   (bif ((c.length + [[D.int IntKind.i64 (IntKind.i64.wrap (c1 + 1)), D.str what]].length) * 24).ble 140737488355328 then
    (bif (c.length + [[D.int IntKind.i64 (IntKind.i64.wrap (c1 + 1)), D.str what]].length).ble 140737488355328 then
     (bif flatRows (c ++ [[D.int IntKind.i64 (IntKind.i64.wrap (c1 + 1)), D.str what]]) then (k ((c ++ [[D.int IntKind.i64 (IntKind.i64.wrap (c1 + 1)), D.str what]], c1))) else none) else none) else none) else (bif flatRows c then (k ((c, c1))) else none)
noncomputable def M.impl_StyleOf_c1 (is : Bool) (what : List UInt8) (c : List Row) (c1 : Int) : Option (List Row × Int) := M.impl_StyleOf_c1_C is what c c1 some
theorem M.impl_StyleOf_c1_n {R : Type} (is : Bool) (what : List UInt8) (c : List Row) (c1 : Int) (k : List Row × Int → Option R) : M.impl_StyleOf_c1_C is what c c1 k = (M.impl_StyleOf_c1_C is what c c1 some).bind k := by
  simp only [M.impl_StyleOf_c1_C, bif_bind, bind_bind, some_bind, none_bind, sumE_bind, optE_bind, letE_bind]
noncomputable def K.impl_StyleOf_c1 : KonC := knil
noncomputable def L.impl_StyleOf_c1 : LoopC := lnil
theorem E.impl_StyleOf_c1 {R : Type} (is : Bool) (what : List UInt8) (c : List Row) (c1 : Int) (k : List Row → List Cell → Option R) : bodyC X0 (K.impl_StyleOf_c1) (L.impl_StyleOf_c1) 13 [V.d (D.bool is), V.d (D.str what), V.ptr 100000 0, V.ptr 100001 0] [Cell.box 22 [V.d (D.sl true 2 c)], Cell.box 3 [V.d (D.int IntKind.i64 c1)]] k = M.impl_StyleOf_c1_C is what c c1 (fun r => k [] [Cell.box 22 [V.d (D.sl true 2 r.fst)], Cell.box 3 [V.d (D.int IntKind.i64 r.snd)]]) := by kernel_rfl
theorem LC.impl_StyleOf_c1 : loops (codeOf X0.P 13) = [] := by kernel_rfl
theorem C.impl_StyleOf_c1 : H.impl_StyleOf_c1 (M.impl_StyleOf_c1) := by
  intro is what c c1 r h
  exact fn_sound (enc := fun r => ([], [Cell.box 22 [V.d (D.sl true 2 r.fst)], Cell.box 3 [V.d (D.int IntKind.i64 r.snd)]])) (K := K.impl_StyleOf_c1) (L := L.impl_StyleOf_c1) (by kernel_rfl) knil_ok (by rw [LC.impl_StyleOf_c1]; exact LOk.nil) (by rw [E.impl_StyleOf_c1, M.impl_StyleOf_c1_n] <;> rfl) h

/-! impl_IsBlank -/
def H.impl_IsBlank (o : Int → Option (Bool)) : Prop := ∀ (b : Int) (r : Bool), o b = some r → call X0 14 [V.d (D.int IntKind.i64 b)] [] = some ([[D.bool r]], [])
def P.impl_IsBlank (o : Int → Option (Bool)) (q : List V → List Cell → Res (List Row × List Cell)) (a : List V) (c : List Cell) : Res (List Row × List Cell) := match a, c with
  | [V.d (D.int IntKind.i64 b)], [] => ⟨Bool, o b, fun r => ([[D.bool r]], [])⟩
  | a, c => q a c
theorem P.impl_IsBlank_ok {o : Int → Option (Bool)} {q : List V → List Cell → Res (List Row × List Cell)} (h : H.impl_IsBlank o) (hq : FnOk X0 14 q) : FnOk X0 14 (P.impl_IsBlank o q) := by
  intro a c r hr
  unfold P.impl_IsBlank at hr
  split at hr
  · obtain ⟨x, hx, rfl⟩ := Res.val_some hr
    exact h _ x hx
  · exact hq _ _ _ hr
noncomputable def M.impl_IsBlank_C {R : Type} (b : Int) (k : Bool → Option R) : Option R :=
  bif b == 32 then (k true) else (k (b == 9))
noncomputable def M.impl_IsBlank (b : Int) : Option (Bool) := M.impl_IsBlank_C b some
theorem M.impl_IsBlank_n {R : Type} (b : Int) (k : Bool → Option R) : M.impl_IsBlank_C b k = (M.impl_IsBlank_C b some).bind k := by
  simp only [M.impl_IsBlank_C, bif_bind, bind_bind, some_bind, none_bind, sumE_bind, optE_bind, letE_bind]
noncomputable def K.impl_IsBlank : KonC := knil
noncomputable def L.impl_IsBlank : LoopC := lnil
theorem E.impl_IsBlank {R : Type} (b : Int) (k : List Row → List Cell → Option R) : bodyC X0 (K.impl_IsBlank) (L.impl_IsBlank) 14 [V.d (D.int IntKind.i64 b)] [] k = M.impl_IsBlank_C b (fun r => k [[D.bool r]] []) := by kernel_rfl
theorem LC.impl_IsBlank : loops (codeOf X0.P 14) = [] := by kernel_rfl
theorem C.impl_IsBlank : H.impl_IsBlank (M.impl_IsBlank) := by
  intro b r h
  exact fn_sound (enc := fun r => ([[D.bool r]], [])) (K := K.impl_IsBlank) (L := L.impl_IsBlank) (by kernel_rfl) knil_ok (by rw [LC.impl_IsBlank]; exact LOk.nil) (by rw [E.impl_IsBlank, M.impl_IsBlank_n] <;> rfl) h

/-! strings_Contains (a primitive) -/
def H.strings_Contains (o : List UInt8 → List UInt8 → Option (Bool)) : Prop := ∀ (s' : List UInt8) (substr : List UInt8) (r : Bool), o s' substr = some r → call X0 15 [V.d (D.str s'), V.d (D.str substr)] [] = some ([[D.bool r]], [])
def P.strings_Contains (o : List UInt8 → List UInt8 → Option (Bool)) (q : List V → List Cell → Res (List Row × List Cell)) (a : List V) (c : List Cell) : Res (List Row × List Cell) := match a, c with
  | [V.d (D.str s'), V.d (D.str substr)], [] => ⟨Bool, o s' substr, fun r => ([[D.bool r]], [])⟩
  | a, c => q a c
theorem P.strings_Contains_ok {o : List UInt8 → List UInt8 → Option (Bool)} {q : List V → List Cell → Res (List Row × List Cell)} (h : H.strings_Contains o) (hq : FnOk X0 15 q) : FnOk X0 15 (P.strings_Contains o q) := by
  intro a c r hr
  unfold P.strings_Contains at hr
  split at hr
  · obtain ⟨x, hx, rfl⟩ := Res.val_some hr
    exact h _ _ x hx
  · exact hq _ _ _ hr
theorem C.strings_Contains : H.strings_Contains M.strings_Contains := fun s' substr r h => call_of_prim (p := Prim.strings_Contains) (by kernel_rfl) (by show Option.map _ (M.strings_Contains s' substr) = _; rw [h]; rfl)

/-! internal_stringslite_HasSuffix -/
def H.internal_stringslite_HasSuffix (o : List UInt8 → List UInt8 → Option (Bool)) : Prop := ∀ (s' : List UInt8) (suffix : List UInt8) (r : Bool), o s' suffix = some r → call X0 22 [V.d (D.str s'), V.d (D.str suffix)] [] = some ([[D.bool r]], [])
def P.internal_stringslite_HasSuffix (o : List UInt8 → List UInt8 → Option (Bool)) (q : List V → List Cell → Res (List Row × List Cell)) (a : List V) (c : List Cell) : Res (List Row × List Cell) := match a, c with
  | [V.d (D.str s'), V.d (D.str suffix)], [] => ⟨Bool, o s' suffix, fun r => ([[D.bool r]], [])⟩
  | a, c => q a c
theorem P.internal_stringslite_HasSuffix_ok {o : List UInt8 → List UInt8 → Option (Bool)} {q : List V → List Cell → Res (List Row × List Cell)} (h : H.internal_stringslite_HasSuffix o) (hq : FnOk X0 22 q) : FnOk X0 22 (P.internal_stringslite_HasSuffix o q) := by
  intro a c r hr
  unfold P.internal_stringslite_HasSuffix at hr
  split at hr
  · obtain ⟨x, hx, rfl⟩ := Res.val_some hr
    exact h _ _ x hx
  · exact hq _ _ _ hr
noncomputable def M.internal_stringslite_HasSuffix_C {R : Type} (s' : List UInt8) (suffix : List UInt8) (k : Bool → Option R) : Option R :=
  bif decide ((↑s'.length : Int) ≥ (↑suffix.length : Int)) then
   ((cut s' (IntKind.i64.wrap ((↑s'.length : Int) - (↑suffix.length : Int))) (↑s'.length : Int)).bind fun s127 => (k (s127 == suffix))) else (k false)
noncomputable def M.internal_stringslite_HasSuffix (s' : List UInt8) (suffix : List UInt8) : Option (Bool) := M.internal_stringslite_HasSuffix_C s' suffix some
theorem M.internal_stringslite_HasSuffix_n {R : Type} (s' : List UInt8) (suffix : List UInt8) (k : Bool → Option R) : M.internal_stringslite_HasSuffix_C s' suffix k = (M.internal_stringslite_HasSuffix_C s' suffix some).bind k := by
  simp only [M.internal_stringslite_HasSuffix_C, bif_bind, bind_bind, some_bind, none_bind, sumE_bind, optE_bind, letE_bind]
noncomputable def K.internal_stringslite_HasSuffix : KonC := knil
noncomputable def L.internal_stringslite_HasSuffix : LoopC := lnil
theorem E.internal_stringslite_HasSuffix {R : Type} (s' : List UInt8) (suffix : List UInt8) (k : List Row → List Cell → Option R) : bodyC X0 (K.internal_stringslite_HasSuffix) (L.internal_stringslite_HasSuffix) 22 [V.d (D.str s'), V.d (D.str suffix)] [] k = M.internal_stringslite_HasSuffix_C s' suffix (fun r => k [[D.bool r]] []) := by kernel_rfl
theorem LC.internal_stringslite_HasSuffix : loops (codeOf X0.P 22) = [] := by kernel_rfl
theorem C.internal_stringslite_HasSuffix : H.internal_stringslite_HasSuffix (M.internal_stringslite_HasSuffix) := by
  intro s' suffix r h
  exact fn_sound (enc := fun r => ([[D.bool r]], [])) (K := K.internal_stringslite_HasSuffix) (L := L.internal_stringslite_HasSuffix) (by kernel_rfl) knil_ok (by rw [LC.internal_stringslite_HasSuffix]; exact LOk.nil) (by rw [E.internal_stringslite_HasSuffix, M.internal_stringslite_HasSuffix_n] <;> rfl) h

/-! strings_HasSuffix -/
def H.strings_HasSuffix (o : List UInt8 → List UInt8 → Option (Bool)) : Prop := ∀ (s' : List UInt8) (suffix : List UInt8) (r : Bool), o s' suffix = some r → call X0 16 [V.d (D.str s'), V.d (D.str suffix)] [] = some ([[D.bool r]], [])
def P.strings_HasSuffix (o : List UInt8 → List UInt8 → Option (Bool)) (q : List V → List Cell → Res (List Row × List Cell)) (a : List V) (c : List Cell) : Res (List Row × List Cell) := match a, c with
  | [V.d (D.str s'), V.d (D.str suffix)], [] => ⟨Bool, o s' suffix, fun r => ([[D.bool r]], [])⟩
  | a, c => q a c
theorem P.strings_HasSuffix_ok {o : List UInt8 → List UInt8 → Option (Bool)} {q : List V → List Cell → Res (List Row × List Cell)} (h : H.strings_HasSuffix o) (hq : FnOk X0 16 q) : FnOk X0 16 (P.strings_HasSuffix o q) := by
  intro a c r hr
  unfold P.strings_HasSuffix at hr
  split at hr
  · obtain ⟨x, hx, rfl⟩ := Res.val_some hr
    exact h _ _ x hx
  · exact hq _ _ _ hr
noncomputable def M.strings_HasSuffix_C {R : Type} (s' : List UInt8) (suffix : List UInt8) (k : Bool → Option R) : Option R :=
  (M.internal_stringslite_HasSuffix s' suffix).bind fun r128 => (k r128)
noncomputable def M.strings_HasSuffix (s' : List UInt8) (suffix : List UInt8) : Option (Bool) := M.strings_HasSuffix_C s' suffix some
theorem M.strings_HasSuffix_n {R : Type} (s' : List UInt8) (suffix : List UInt8) (k : Bool → Option R) : M.strings_HasSuffix_C s' suffix k = (M.strings_HasSuffix_C s' suffix some).bind k := by
  simp only [M.strings_HasSuffix_C, bif_bind, bind_bind, some_bind, none_bind, sumE_bind, optE_bind, letE_bind]
noncomputable def K.strings_HasSuffix : KonC := (kcons 22 (P.internal_stringslite_HasSuffix M.internal_stringslite_HasSuffix pnil) knil)
noncomputable def L.strings_HasSuffix : LoopC := lnil
theorem E.strings_HasSuffix {R : Type} (s' : List UInt8) (suffix : List UInt8) (k : List Row → List Cell → Option R) : bodyC X0 (K.strings_HasSuffix) (L.strings_HasSuffix) 16 [V.d (D.str s'), V.d (D.str suffix)] [] k = M.strings_HasSuffix_C s' suffix (fun r => k [[D.bool r]] []) := by kernel_rfl
theorem LC.strings_HasSuffix : loops (codeOf X0.P 16) = [] := by kernel_rfl
theorem C.strings_HasSuffix : H.strings_HasSuffix (M.strings_HasSuffix) := by
  intro s' suffix r h
  exact fn_sound (enc := fun r => ([[D.bool r]], [])) (K := K.strings_HasSuffix) (L := L.strings_HasSuffix) (by kernel_rfl) (kcons_ok (P.internal_stringslite_HasSuffix_ok C.internal_stringslite_HasSuffix pnil_ok) knil_ok) (by rw [LC.strings_HasSuffix]; exact LOk.nil) (by rw [E.strings_HasSuffix, M.strings_HasSuffix_n] <;> rfl) h

/-! impl_StyleOf -/
def H.impl_StyleOf (o : List UInt8 → Int → Option (List Row)) : Prop := ∀ (s' : List UInt8) (w : Int) (r : List Row), o s' w = some r → call X0 5 [V.d (D.str s'), V.d (D.int IntKind.i64 w)] [] = some ([[D.sl true 2 r]], [])
def P.impl_StyleOf (o : List UInt8 → Int → Option (List Row)) (q : List V → List Cell → Res (List Row × List Cell)) (a : List V) (c : List Cell) : Res (List Row × List Cell) := match a, c with
  | [V.d (D.str s'), V.d (D.int IntKind.i64 w)], [] => ⟨List Row, o s' w, fun r => ([[D.sl true 2 r]], [])⟩
  | a, c => q a c
theorem P.impl_StyleOf_ok {o : List UInt8 → Int → Option (List Row)} {q : List V → List Cell → Res (List Row × List Cell)} (h : H.impl_StyleOf o) (hq : FnOk X0 5 q) : FnOk X0 5 (P.impl_StyleOf o q) := by
  intro a c r hr
  unfold P.impl_StyleOf at hr
  split at hr
  · obtain ⟨x, hx, rfl⟩ := Res.val_some hr
    exact h _ _ x hx
  · exact hq _ _ _ hr
noncomputable def M.impl_StyleOf_l3_C {R : Type} (s' : List UInt8) (w : Int) (v14 : Int) (x' : List Row) (s : Int × List Row) (kn : Int × List Row → Option R) (ke : Int × Bool × List Row → Option R) : Option R := match s with
  | (v15, x'1) =>
    bif decide (v15 < v14) then
     ((idx x' v15).bind fun row102 =>
      (x'[v15.toNat]?.bind fun row103 =>
       ((cStr row103 0).bind fun s104 =>
        (bif flatRows x'1 then
         ((M.impl_StyleOf_c1 (decide ((↑s104.length : Int) > w)) [108, 111, 110, 103] x'1 v15).bind fun r105 =>
          (bif !s104 == [] then
           ((idx s104 (IntKind.i64.wrap ((↑s104.length : Int) - 1))).bind fun c106 =>
            ((M.impl_IsBlank (IntKind.i64.wrap (↑c106.toNat : Int))).bind fun r107 =>
             (bif flatRows r105.fst then
              ((M.impl_StyleOf_c1 r107 [98, 108, 97, 110, 107, 115] r105.fst r105.snd).bind fun r108 =>
               ((M.strings_Contains s104 [9]).bind fun r109 =>
                (bif flatRows r108.fst then
                 ((M.impl_StyleOf_c1 r109 [116, 97, 98] r108.fst r108.snd).bind fun r110 =>
                  (bif s104 == [] then
                   (bif r110.snd == 0 then
                    (bif flatRows r110.fst then
                     ((M.impl_StyleOf_c1 true [101, 109, 112, 116, 121] r110.fst r110.snd).bind fun r111 => (kn ((IntKind.i64.wrap (v15 + 1), r111.fst)))) else none) else
                    ((idx x' (IntKind.i64.wrap (r110.snd - 1))).bind fun row112 =>
                     ((x'[(IntKind.i64.wrap (r110.snd - 1)).toNat]?).bind fun row113 =>
                      ((cStr row113 0).bind fun s114 =>
                       (bif flatRows r110.fst then
                        ((M.impl_StyleOf_c1 (s114 == []) [101, 109, 112, 116, 121] r110.fst r110.snd).bind fun r115 => (kn ((IntKind.i64.wrap (v15 + 1), r115.fst)))) else none))))) else
                   (bif flatRows r110.fst then
                    ((M.impl_StyleOf_c1 false [101, 109, 112, 116, 121] r110.fst r110.snd).bind fun r116 => (kn ((IntKind.i64.wrap (v15 + 1), r116.fst)))) else none))) else none))) else none))) else
           (bif flatRows r105.fst then
            ((M.impl_StyleOf_c1 false [98, 108, 97, 110, 107, 115] r105.fst r105.snd).bind fun r117 =>
             ((M.strings_Contains s104 [9]).bind fun r118 =>
              (bif flatRows r117.fst then
               ((M.impl_StyleOf_c1 r118 [116, 97, 98] r117.fst r117.snd).bind fun r119 =>
                (bif s104 == [] then
                 (bif r119.snd == 0 then
                  (bif flatRows r119.fst then
                   ((M.impl_StyleOf_c1 true [101, 109, 112, 116, 121] r119.fst r119.snd).bind fun r120 => (kn ((IntKind.i64.wrap (v15 + 1), r120.fst)))) else none) else
                  ((idx x' (IntKind.i64.wrap (r119.snd - 1))).bind fun row121 =>
                   ((x'[(IntKind.i64.wrap (r119.snd - 1)).toNat]?).bind fun row122 =>
                    ((cStr row122 0).bind fun s123 =>
                     (bif flatRows r119.fst then
                      ((M.impl_StyleOf_c1 (s123 == []) [101, 109, 112, 116, 121] r119.fst r119.snd).bind fun r124 => (kn ((IntKind.i64.wrap (v15 + 1), r124.fst)))) else none))))) else
                 (bif flatRows r119.fst then
                  ((M.impl_StyleOf_c1 false [101, 109, 112, 116, 121] r119.fst r119.snd).bind fun r125 => (kn ((IntKind.i64.wrap (v15 + 1), r125.fst)))) else none))) else none))) else none))) else none)))) else (ke ((v15, decide (v15 < v14), x'1)))
noncomputable def M.impl_StyleOf_l3_b (s' : List UInt8) (w : Int) (v14 : Int) (x' : List Row) (s : Int × List Row) : Option ((Int × List Row) ⊕ (Int × Bool × List Row)) := M.impl_StyleOf_l3_C s' w v14 x' s (fun s => some (.inl s)) (fun t => some (.inr t))
noncomputable def M.impl_StyleOf_l3 (s' : List UInt8) (w : Int) (v14 : Int) (x' : List Row) (s : Int × List Row) : Option (Int × Bool × List Row) := loopM (M.impl_StyleOf_l3_b s' w v14 x') s
theorem M.impl_StyleOf_l3_n {R : Type} (s' : List UInt8) (w : Int) (v14 : Int) (x' : List Row) (s : Int × List Row) (kn : Int × List Row → Option R) (ke : Int × Bool × List Row → Option R) : M.impl_StyleOf_l3_C s' w v14 x' s kn ke = (M.impl_StyleOf_l3_b s' w v14 x' s).bind fun r => match r with | .inl s => kn s | .inr t => ke t := by
  obtain ⟨v15, x'1⟩ := s
  all_goals
    simp only [M.impl_StyleOf_l3_b, M.impl_StyleOf_l3_C, bif_bind, bind_bind, some_bind, none_bind, sumE_bind, optE_bind, letE_bind]
def A.impl_StyleOf_l3 (s' : List UInt8) (w : Int) (v14 : Int) (x' : List Row) : Alt (Ex × St) := .leaf (Int × Bool × List Row) (fun t => (Ex.exit 0, { tm := [(0, V.d (D.str s')), (1, V.d (D.int IntKind.i64 w)), (5, V.ptr 300000 0), (6, V.own 300001 0), (13, V.own 300001 0), (14, V.d (D.int IntKind.i64 v14)), (15, V.d (D.int IntKind.i64 t.fst)), (16, V.d (D.bool t.snd.fst))], mem := [(300000, Cell.box 22 [V.own 300002 0]), (300001, Cell.arr false true 0 1 x'), (300002, Cell.arr false true 0 2 t.snd.snd)] }))
def T.impl_StyleOf_l3 (s' : List UInt8) (w : Int) (v14 : Int) (x' : List Row) (s : Int × List Row) : St := match s with
  | (v15, x'1) => { tm := [(0, V.d (D.str s')), (1, V.d (D.int IntKind.i64 w)), (5, V.ptr 300000 0), (6, V.own 300001 0), (13, V.own 300001 0), (14, V.d (D.int IntKind.i64 v14)), (15, V.d (D.int IntKind.i64 v15))], mem := [(300000, Cell.box 22 [V.own 300002 0]), (300001, Cell.arr false true 0 1 x'), (300002, Cell.arr false true 0 2 x'1)] }
noncomputable def K.impl_StyleOf_l3 : KonC := (kcons 13 (P.impl_StyleOf_c1 M.impl_StyleOf_c1 pnil) (kcons 14 (P.impl_IsBlank M.impl_IsBlank pnil) (kcons 15 (P.strings_Contains M.strings_Contains pnil) knil)))
noncomputable def L.impl_StyleOf_l3 : LoopC := lnil
theorem E.impl_StyleOf_l3 {R : Type} (s' : List UInt8) (w : Int) (v14 : Int) (x' : List Row) (s : Int × List Row) (k : Ex → St → Option R) : denC X0 (K.impl_StyleOf_l3) (L.impl_StyleOf_l3) 5 (loopCode X0.P 5 3) (T.impl_StyleOf_l3 s' w v14 x' s) k = M.impl_StyleOf_l3_C s' w v14 x' s (fun s => k .normal (T.impl_StyleOf_l3 s' w v14 x' s)) (fun t => (A.impl_StyleOf_l3 s' w v14 x').go t fun r => k r.1 r.2) := by
  obtain ⟨v15, x'1⟩ := s
  all_goals kernel_rfl
theorem LC.impl_StyleOf_l3 : loops (loopCode X0.P 5 3) = [] := by kernel_rfl
noncomputable def PL.impl_StyleOf_l3 (S : St) : ResA (Ex × St) := match S with
  | { tm := [(0, V.d (D.str s')), (1, V.d (D.int IntKind.i64 w)), (5, V.ptr 300000 0), (6, V.own 300001 0), (13, V.own 300001 0), (14, V.d (D.int IntKind.i64 v14)), (15, V.d (D.int IntKind.i64 v15))], mem := [(300000, Cell.box 22 [V.own 300002 0]), (300001, Cell.arr false true 0 1 x'), (300002, Cell.arr false true 0 2 x'1)] } => ⟨A.impl_StyleOf_l3 s' w v14 x', M.impl_StyleOf_l3 s' w v14 x' ((v15, x'1))⟩
  | _ => .none
theorem C.impl_StyleOf_l3 : LpOk X0 5 3 (loopCode X0.P 5 3) (PL.impl_StyleOf_l3) := by
  refine ⟨by kernel_rfl, fun S r hr => ?_⟩
  unfold PL.impl_StyleOf_l3 at hr
  split at hr
  · obtain ⟨x, hx, rfl⟩ := ResA.val_some hr
    exact lp_sound (K := K.impl_StyleOf_l3) (L := L.impl_StyleOf_l3) (b := M.impl_StyleOf_l3_b _ _ _ _) (tm := T.impl_StyleOf_l3 _ _ _ _) (tx := (A.impl_StyleOf_l3 _ _ _ _).enc) (kcons_ok (P.impl_StyleOf_c1_ok C.impl_StyleOf_c1 pnil_ok) (kcons_ok (P.impl_IsBlank_ok C.impl_IsBlank pnil_ok) (kcons_ok (P.strings_Contains_ok C.strings_Contains pnil_ok) knil_ok))) (by rw [LC.impl_StyleOf_l3]; exact LOk.nil) (fun s => by rw [E.impl_StyleOf_l3, M.impl_StyleOf_l3_n]; congr 1; funext r; cases r <;> first | rfl | exact Alt.go_eq _ _ _) (by intro t; intro h; cases h) hx (s := (_, _))
  · cases hr
noncomputable def M.impl_StyleOf_C {R : Type} (s' : List UInt8) (w : Int) (k : List Row → Option R) : Option R :=
  (M.impl_LinesOf s').bind fun r101 =>
   ((M.impl_StyleOf_l3 s' w ((↑r101.length : Int)) r101 ((0, []))).bind fun t126 =>
    (bif !s' == [] then
     ((M.strings_HasSuffix s' [10]).bind fun r129 =>
      (bif !r129 then
       (bif ((t126.snd.snd.length + [[D.int IntKind.i64 (↑r101.length : Int), D.str [101, 110, 100]]].length) * 24).ble 140737488355328 then
        (bif (t126.snd.snd.length + [[D.int IntKind.i64 (↑r101.length : Int), D.str [101, 110, 100]]].length).ble 140737488355328 then
         (bif flatRows (t126.snd.snd ++ [[D.int IntKind.i64 (↑r101.length : Int), D.str [101, 110, 100]]]) then (k (t126.snd.snd ++ [[D.int IntKind.i64 (↑r101.length : Int), D.str [101, 110, 100]]])) else none) else none) else none) else (bif flatRows t126.snd.snd then (k t126.snd.snd) else none))) else (bif flatRows t126.snd.snd then (k t126.snd.snd) else none)))
noncomputable def M.impl_StyleOf (s' : List UInt8) (w : Int) : Option (List Row) := M.impl_StyleOf_C s' w some
theorem M.impl_StyleOf_n {R : Type} (s' : List UInt8) (w : Int) (k : List Row → Option R) : M.impl_StyleOf_C s' w k = (M.impl_StyleOf_C s' w some).bind k := by
  simp only [M.impl_StyleOf_C, bif_bind, bind_bind, some_bind, none_bind, sumE_bind, optE_bind, letE_bind]
noncomputable def K.impl_StyleOf : KonC := (kcons 12 (P.impl_LinesOf M.impl_LinesOf pnil) (kcons 16 (P.strings_HasSuffix M.strings_HasSuffix pnil) knil))
noncomputable def L.impl_StyleOf : LoopC := (lcons 3 (PL.impl_StyleOf_l3) lnil)
theorem E.impl_StyleOf {R : Type} (s' : List UInt8) (w : Int) (k : List Row → List Cell → Option R) : bodyC X0 (K.impl_StyleOf) (L.impl_StyleOf) 5 [V.d (D.str s'), V.d (D.int IntKind.i64 w)] [] k = M.impl_StyleOf_C s' w (fun r => k [[D.sl true 2 r]] []) := by kernel_rfl
theorem LC.impl_StyleOf : loops (codeOf X0.P 5) = [loopCode X0.P 5 3] := by kernel_rfl
theorem C.impl_StyleOf : H.impl_StyleOf (M.impl_StyleOf) := by
  intro s' w r h
  exact fn_sound (enc := fun r => ([[D.sl true 2 r]], [])) (K := K.impl_StyleOf) (L := L.impl_StyleOf) (by kernel_rfl) (kcons_ok (P.impl_LinesOf_ok C.impl_LinesOf pnil_ok) (kcons_ok (P.strings_HasSuffix_ok C.strings_HasSuffix pnil_ok) knil_ok)) (by rw [LC.impl_StyleOf]; exact (LOk.cons (LpOk.at (C.impl_StyleOf_l3) (fun _ => rfl)) LOk.nil)) (by rw [E.impl_StyleOf, M.impl_StyleOf_n] <;> rfl) h

/-! laws_eqRemark -/
def H.laws_eqRemark (o : Int → List UInt8 → Int → List UInt8 → Option (Bool)) : Prop := ∀ (a : Int) (a1 : List UInt8) (b : Int) (b1 : List UInt8) (r : Bool), o a a1 b b1 = some r → call X0 17 [V.agg [V.d (D.int IntKind.i64 a), V.d (D.str a1)], V.agg [V.d (D.int IntKind.i64 b), V.d (D.str b1)]] [] = some ([[D.bool r]], [])
def P.laws_eqRemark (o : Int → List UInt8 → Int → List UInt8 → Option (Bool)) (q : List V → List Cell → Res (List Row × List Cell)) (a : List V) (c : List Cell) : Res (List Row × List Cell) := match a, c with
  | [V.agg [V.d (D.int IntKind.i64 a), V.d (D.str a1)], V.agg [V.d (D.int IntKind.i64 b), V.d (D.str b1)]], [] => ⟨Bool, o a a1 b b1, fun r => ([[D.bool r]], [])⟩
  | a, c => q a c
theorem P.laws_eqRemark_ok {o : Int → List UInt8 → Int → List UInt8 → Option (Bool)} {q : List V → List Cell → Res (List Row × List Cell)} (h : H.laws_eqRemark o) (hq : FnOk X0 17 q) : FnOk X0 17 (P.laws_eqRemark o q) := by
  intro a c r hr
  unfold P.laws_eqRemark at hr
  split at hr
  · obtain ⟨x, hx, rfl⟩ := Res.val_some hr
    exact h _ _ _ _ x hx
  · exact hq _ _ _ hr
noncomputable def M.laws_eqRemark_C {R : Type} (a : Int) (a1 : List UInt8) (b : Int) (b1 : List UInt8) (k : Bool → Option R) : Option R :=
  bif a != b then (k false) else (bif !a1 == b1 then (k false) else (k true))
noncomputable def M.laws_eqRemark (a : Int) (a1 : List UInt8) (b : Int) (b1 : List UInt8) : Option (Bool) := M.laws_eqRemark_C a a1 b b1 some
theorem M.laws_eqRemark_n {R : Type} (a : Int) (a1 : List UInt8) (b : Int) (b1 : List UInt8) (k : Bool → Option R) : M.laws_eqRemark_C a a1 b b1 k = (M.laws_eqRemark_C a a1 b b1 some).bind k := by
  simp only [M.laws_eqRemark_C, bif_bind, bind_bind, some_bind, none_bind, sumE_bind, optE_bind, letE_bind]
noncomputable def K.laws_eqRemark : KonC := knil
noncomputable def L.laws_eqRemark : LoopC := lnil
theorem E.laws_eqRemark {R : Type} (a : Int) (a1 : List UInt8) (b : Int) (b1 : List UInt8) (k : List Row → List Cell → Option R) : bodyC X0 (K.laws_eqRemark) (L.laws_eqRemark) 17 [V.agg [V.d (D.int IntKind.i64 a), V.d (D.str a1)], V.agg [V.d (D.int IntKind.i64 b), V.d (D.str b1)]] [] k = M.laws_eqRemark_C a a1 b b1 (fun r => k [[D.bool r]] []) := by kernel_rfl
theorem LC.laws_eqRemark : loops (codeOf X0.P 17) = [] := by kernel_rfl
theorem C.laws_eqRemark : H.laws_eqRemark (M.laws_eqRemark) := by
  intro a a1 b b1 r h
  exact fn_sound (enc := fun r => ([[D.bool r]], [])) (K := K.laws_eqRemark) (L := L.laws_eqRemark) (by kernel_rfl) knil_ok (by rw [LC.laws_eqRemark]; exact LOk.nil) (by rw [E.laws_eqRemark, M.laws_eqRemark_n] <;> rfl) h

/-! laws_eqRemarkS -/
def H.laws_eqRemarkS (o : List Row → List Row → Option (Bool)) : Prop := ∀ (a : List Row) (b : List Row) (r : Bool), o a b = some r → call X0 6 [V.d (D.sl false 2 a), V.d (D.sl false 2 b)] [] = some ([[D.bool r]], [])
def P.laws_eqRemarkS (o : List Row → List Row → Option (Bool)) (q : List V → List Cell → Res (List Row × List Cell)) (a : List V) (c : List Cell) : Res (List Row × List Cell) := match a, c with
  | [V.d (D.sl false 2 a), V.d (D.sl false 2 b)], [] => ⟨Bool, o a b, fun r => ([[D.bool r]], [])⟩
  | a, c => q a c
theorem P.laws_eqRemarkS_ok {o : List Row → List Row → Option (Bool)} {q : List V → List Cell → Res (List Row × List Cell)} (h : H.laws_eqRemarkS o) (hq : FnOk X0 6 q) : FnOk X0 6 (P.laws_eqRemarkS o q) := by
  intro a c r hr
  unfold P.laws_eqRemarkS at hr
  split at hr
  · obtain ⟨x, hx, rfl⟩ := Res.val_some hr
    exact h _ _ x hx
  · exact hq _ _ _ hr
noncomputable def M.laws_eqRemarkS_l4_C {R : Type} (a : List Row) (b : List Row) (s : Int) (kn : Int → Option R) (ke : (Unit) ⊕ (Int × Bool) → Option R) : Option R := match s with
  | i =>
    bif decide (i < (↑a.length : Int)) then
     ((idx a i).bind fun row131 =>
      ((cInt IntKind.i64 row131 0).bind fun n132 =>
       ((cStr row131 1).bind fun s133 =>
        ((idx b i).bind fun row134 =>
         ((cInt IntKind.i64 row134 0).bind fun n135 =>
          ((cStr row134 1).bind fun s136 =>
           ((M.laws_eqRemark n132 s133 n135 s136).bind fun r137 => (bif !r137 then (ke (.inl ())) else (kn (IntKind.i64.wrap (i + 1))))))))))) else (ke (.inr ((i, decide (i < (↑a.length : Int))))))
noncomputable def M.laws_eqRemarkS_l4_b (a : List Row) (b : List Row) (s : Int) : Option ((Int) ⊕ ((Unit) ⊕ (Int × Bool))) := M.laws_eqRemarkS_l4_C a b s (fun s => some (.inl s)) (fun t => some (.inr t))
noncomputable def M.laws_eqRemarkS_l4 (a : List Row) (b : List Row) (s : Int) : Option ((Unit) ⊕ (Int × Bool)) := loopM (M.laws_eqRemarkS_l4_b a b) s
theorem M.laws_eqRemarkS_l4_n {R : Type} (a : List Row) (b : List Row) (s : Int) (kn : Int → Option R) (ke : (Unit) ⊕ (Int × Bool) → Option R) : M.laws_eqRemarkS_l4_C a b s kn ke = (M.laws_eqRemarkS_l4_b a b s).bind fun r => match r with | .inl s => kn s | .inr t => ke t := by
  skip
  all_goals
    simp only [M.laws_eqRemarkS_l4_b, M.laws_eqRemarkS_l4_C, bif_bind, bind_bind, some_bind, none_bind, sumE_bind, optE_bind, letE_bind]
def A.laws_eqRemarkS_l4 (a : List Row) (b : List Row) : Alt (Ex × St) := .sum (.leaf (Unit) (fun t => (Ex.ret, { tm := [(4, V.d (D.bool false))], mem := [] }))) (.leaf (Int × Bool) (fun t => (Ex.exit 0, { tm := [(0, V.d (D.sl false 2 a)), (1, V.d (D.sl false 2 b)), (5, V.d (D.int IntKind.i64 t.fst)), (14, V.d (D.bool t.snd))], mem := [] })))
def T.laws_eqRemarkS_l4 (a : List Row) (b : List Row) (s : Int) : St := match s with
  | i => { tm := [(0, V.d (D.sl false 2 a)), (1, V.d (D.sl false 2 b)), (5, V.d (D.int IntKind.i64 i))], mem := [] }
noncomputable def K.laws_eqRemarkS_l4 : KonC := (kcons 17 (P.laws_eqRemark M.laws_eqRemark pnil) knil)
noncomputable def L.laws_eqRemarkS_l4 : LoopC := lnil
theorem E.laws_eqRemarkS_l4 {R : Type} (a : List Row) (b : List Row) (s : Int) (k : Ex → St → Option R) : denC X0 (K.laws_eqRemarkS_l4) (L.laws_eqRemarkS_l4) 6 (loopCode X0.P 6 4) (T.laws_eqRemarkS_l4 a b s) k = M.laws_eqRemarkS_l4_C a b s (fun s => k .normal (T.laws_eqRemarkS_l4 a b s)) (fun t => (A.laws_eqRemarkS_l4 a b).go t fun r => k r.1 r.2) := by
  skip
  all_goals kernel_rfl
theorem LC.laws_eqRemarkS_l4 : loops (loopCode X0.P 6 4) = [] := by kernel_rfl
noncomputable def PL.laws_eqRemarkS_l4 (S : St) : ResA (Ex × St) := match S with
  | { tm := [(0, V.d (D.sl false 2 a)), (1, V.d (D.sl false 2 b)), (5, V.d (D.int IntKind.i64 i))], mem := [] } => ⟨A.laws_eqRemarkS_l4 a b, M.laws_eqRemarkS_l4 a b i⟩
  | _ => .none
theorem C.laws_eqRemarkS_l4 : LpOk X0 6 4 (loopCode X0.P 6 4) (PL.laws_eqRemarkS_l4) := by
  refine ⟨by kernel_rfl, fun S r hr => ?_⟩
  unfold PL.laws_eqRemarkS_l4 at hr
  split at hr
  · obtain ⟨x, hx, rfl⟩ := ResA.val_some hr
    exact lp_sound (K := K.laws_eqRemarkS_l4) (L := L.laws_eqRemarkS_l4) (b := M.laws_eqRemarkS_l4_b _ _) (tm := T.laws_eqRemarkS_l4 _ _) (tx := (A.laws_eqRemarkS_l4 _ _).enc) (kcons_ok (P.laws_eqRemark_ok C.laws_eqRemark pnil_ok) knil_ok) (by rw [LC.laws_eqRemarkS_l4]; exact LOk.nil) (fun s => by rw [E.laws_eqRemarkS_l4, M.laws_eqRemarkS_l4_n]; congr 1; funext r; cases r <;> first | rfl | exact Alt.go_eq _ _ _) (by intro t; rcases t with t | t <;> first | (intro h; cases h) | (intro h; cases h)) hx (s := _)
  · cases hr
noncomputable def M.laws_eqRemarkS_C {R : Type} (a : List Row) (b : List Row) (k : Bool → Option R) : Option R :=
  bif (↑a.length : Int) != (↑b.length : Int) then (k false) else
   ((M.laws_eqRemarkS_l4 a b 0).bind fun u140 =>
   sumE u140 (fun t138 => (k false)) fun u141 =>
    letE u141 fun t139 => (k true))
noncomputable def M.laws_eqRemarkS (a : List Row) (b : List Row) : Option (Bool) := M.laws_eqRemarkS_C a b some
theorem M.laws_eqRemarkS_n {R : Type} (a : List Row) (b : List Row) (k : Bool → Option R) : M.laws_eqRemarkS_C a b k = (M.laws_eqRemarkS_C a b some).bind k := by
  simp only [M.laws_eqRemarkS_C, bif_bind, bind_bind, some_bind, none_bind, sumE_bind, optE_bind, letE_bind]
noncomputable def K.laws_eqRemarkS : KonC := knil
noncomputable def L.laws_eqRemarkS : LoopC := (lcons 4 (PL.laws_eqRemarkS_l4) lnil)
theorem E.laws_eqRemarkS {R : Type} (a : List Row) (b : List Row) (k : List Row → List Cell → Option R) : bodyC X0 (K.laws_eqRemarkS) (L.laws_eqRemarkS) 6 [V.d (D.sl false 2 a), V.d (D.sl false 2 b)] [] k = M.laws_eqRemarkS_C a b (fun r => k [[D.bool r]] []) := by kernel_rfl
theorem LC.laws_eqRemarkS : loops (codeOf X0.P 6) = [loopCode X0.P 6 4] := by kernel_rfl
theorem C.laws_eqRemarkS : H.laws_eqRemarkS (M.laws_eqRemarkS) := by
  intro a b r h
  exact fn_sound (enc := fun r => ([[D.bool r]], [])) (K := K.laws_eqRemarkS) (L := L.laws_eqRemarkS) (by kernel_rfl) knil_ok (by rw [LC.laws_eqRemarkS]; exact (LOk.cons (LpOk.at (C.laws_eqRemarkS_l4) (fun _ => rfl)) LOk.nil)) (by rw [E.laws_eqRemarkS, M.laws_eqRemarkS_n] <;> rfl) h

/-! laws_markText -/
def H.laws_markText (o : Int → Option (List UInt8)) : Prop := ∀ (k' : Int) (r : List UInt8), o k' = some r → call X0 18 [V.d (D.int IntKind.i64 k')] [] = some ([[D.str r]], [])
def P.laws_markText (o : Int → Option (List UInt8)) (q : List V → List Cell → Res (List Row × List Cell)) (a : List V) (c : List Cell) : Res (List Row × List Cell) := match a, c with
  | [V.d (D.int IntKind.i64 k')], [] => ⟨List UInt8, o k', fun r => ([[D.str r]], [])⟩
  | a, c => q a c
theorem P.laws_markText_ok {o : Int → Option (List UInt8)} {q : List V → List Cell → Res (List Row × List Cell)} (h : H.laws_markText o) (hq : FnOk X0 18 q) : FnOk X0 18 (P.laws_markText o q) := by
  intro a c r hr
  unfold P.laws_markText at hr
  split at hr
  · obtain ⟨x, hx, rfl⟩ := Res.val_some hr
    exact h _ x hx
  · exact hq _ _ _ hr
noncomputable def M.laws_markText_l4_C {R : Type} (s : Int × List UInt8) (kn : Int × List UInt8 → Option R) (ke : Int × List UInt8 × Bool → Option R) : Option R := match s with
  | (k', out') =>
    bif decide (k' > 0) then
     (bif ([UInt8.ofNat (IntKind.u8.wrap (IntKind.i64.wrap (48 + k'.tmod 10))).toNat].length + out'.length).ble 9223372036854775807 then
      (kn ((IntKind.i64.wrap (k'.tdiv 10), [UInt8.ofNat (IntKind.u8.wrap (IntKind.i64.wrap (48 + k'.tmod 10))).toNat] ++ out'))) else none) else (ke ((k', out', decide (k' > 0))))
noncomputable def M.laws_markText_l4_b (s : Int × List UInt8) : Option ((Int × List UInt8) ⊕ (Int × List UInt8 × Bool)) := M.laws_markText_l4_C s (fun s => some (.inl s)) (fun t => some (.inr t))
noncomputable def M.laws_markText_l4 (s : Int × List UInt8) : Option (Int × List UInt8 × Bool) := loopM (M.laws_markText_l4_b) s
theorem M.laws_markText_l4_n {R : Type} (s : Int × List UInt8) (kn : Int × List UInt8 → Option R) (ke : Int × List UInt8 × Bool → Option R) : M.laws_markText_l4_C s kn ke = (M.laws_markText_l4_b s).bind fun r => match r with | .inl s => kn s | .inr t => ke t := by
  obtain ⟨k', out'⟩ := s
  all_goals
    simp only [M.laws_markText_l4_b, M.laws_markText_l4_C, bif_bind, bind_bind, some_bind, none_bind, sumE_bind, optE_bind, letE_bind]
def A.laws_markText_l4 : Alt (Ex × St) := .leaf (Int × List UInt8 × Bool) (fun t => (Ex.exit 0, { tm := [(0, V.d (D.int IntKind.i64 t.fst)), (3, V.d (D.str t.snd.fst)), (7, V.d (D.bool t.snd.snd))], mem := [] }))
def T.laws_markText_l4 (s : Int × List UInt8) : St := match s with
  | (k', out') => { tm := [(0, V.d (D.int IntKind.i64 k')), (3, V.d (D.str out'))], mem := [] }
noncomputable def K.laws_markText_l4 : KonC := knil
noncomputable def L.laws_markText_l4 : LoopC := lnil
theorem E.laws_markText_l4 {R : Type} (s : Int × List UInt8) (k : Ex → St → Option R) : denC X0 (K.laws_markText_l4) (L.laws_markText_l4) 18 (loopCode X0.P 18 4) (T.laws_markText_l4 s) k = M.laws_markText_l4_C s (fun s => k .normal (T.laws_markText_l4 s)) (fun t => (A.laws_markText_l4).go t fun r => k r.1 r.2) := by
  obtain ⟨k', out'⟩ := s
  all_goals kernel_rfl
theorem LC.laws_markText_l4 : loops (loopCode X0.P 18 4) = [] := by kernel_rfl
noncomputable def PL.laws_markText_l4 (S : St) : ResA (Ex × St) := match S with
  | { tm := [(0, V.d (D.int IntKind.i64 k')), (3, V.d (D.str out'))], mem := [] } => ⟨A.laws_markText_l4, M.laws_markText_l4 ((k', out'))⟩
  | _ => .none
theorem C.laws_markText_l4 : LpOk X0 18 4 (loopCode X0.P 18 4) (PL.laws_markText_l4) := by
  refine ⟨by kernel_rfl, fun S r hr => ?_⟩
  unfold PL.laws_markText_l4 at hr
  split at hr
  · obtain ⟨x, hx, rfl⟩ := ResA.val_some hr
    exact lp_sound (K := K.laws_markText_l4) (L := L.laws_markText_l4) (b := M.laws_markText_l4_b) (tm := T.laws_markText_l4) (tx := (A.laws_markText_l4).enc) knil_ok (by rw [LC.laws_markText_l4]; exact LOk.nil) (fun s => by rw [E.laws_markText_l4, M.laws_markText_l4_n]; congr 1; funext r; cases r <;> first | rfl | exact Alt.go_eq _ _ _) (by intro t; intro h; cases h) hx (s := (_, _))
  · cases hr
noncomputable def M.laws_markText_C {R : Type} (k' : Int) (k : List UInt8 → Option R) : Option R :=
  bif decide (k' ≤ 0) then (k [109, 48]) else
   ((M.laws_markText_l4 ((k', []))).bind fun t145 =>
    (bif (1 + t145.snd.fst.length).ble 9223372036854775807 then (k ([109] ++ t145.snd.fst)) else none))
noncomputable def M.laws_markText (k' : Int) : Option (List UInt8) := M.laws_markText_C k' some
theorem M.laws_markText_n {R : Type} (k' : Int) (k : List UInt8 → Option R) : M.laws_markText_C k' k = (M.laws_markText_C k' some).bind k := by
  simp only [M.laws_markText_C, bif_bind, bind_bind, some_bind, none_bind, sumE_bind, optE_bind, letE_bind]
noncomputable def K.laws_markText : KonC := knil
noncomputable def L.laws_markText : LoopC := (lcons 4 (PL.laws_markText_l4) lnil)
theorem E.laws_markText {R : Type} (k' : Int) (k : List Row → List Cell → Option R) : bodyC X0 (K.laws_markText) (L.laws_markText) 18 [V.d (D.int IntKind.i64 k')] [] k = M.laws_markText_C k' (fun r => k [[D.str r]] []) := by kernel_rfl
theorem LC.laws_markText : loops (codeOf X0.P 18) = [loopCode X0.P 18 4] := by kernel_rfl
theorem C.laws_markText : H.laws_markText (M.laws_markText) := by
  intro k' r h
  exact fn_sound (enc := fun r => ([[D.str r]], [])) (K := K.laws_markText) (L := L.laws_markText) (by kernel_rfl) knil_ok (by rw [LC.laws_markText]; exact (LOk.cons (LpOk.at (C.laws_markText_l4) (fun _ => rfl)) LOk.nil)) (by rw [E.laws_markText, M.laws_markText_n] <;> rfl) h

/-! laws_markRemarkS -/
def H.laws_markRemarkS (o : Int → List Row → Option (Int × List Row)) : Prop := ∀ (k' : Int) (c : List Row) (r : Int × List Row), o k' c = some r → call X0 7 [V.own 100000 0, V.d (D.int IntKind.i64 k')] [Cell.arr false true 0 2 c] = some ([[D.int IntKind.i64 r.fst]], [Cell.arr false true 0 2 r.snd])
def P.laws_markRemarkS (o : Int → List Row → Option (Int × List Row)) (q : List V → List Cell → Res (List Row × List Cell)) (a : List V) (c : List Cell) : Res (List Row × List Cell) := match a, c with
  | [V.own 100000 0, V.d (D.int IntKind.i64 k')], [Cell.arr false true 0 2 c] => ⟨Int × List Row, o k' c, fun r => ([[D.int IntKind.i64 r.fst]], [Cell.arr false true 0 2 r.snd])⟩
  | a, c => q a c
theorem P.laws_markRemarkS_ok {o : Int → List Row → Option (Int × List Row)} {q : List V → List Cell → Res (List Row × List Cell)} (h : H.laws_markRemarkS o) (hq : FnOk X0 7 q) : FnOk X0 7 (P.laws_markRemarkS o q) := by
  intro a c r hr
  unfold P.laws_markRemarkS at hr
  split at hr
  · obtain ⟨x, hx, rfl⟩ := Res.val_some hr
    exact h _ _ x hx
  · exact hq _ _ _ hr
noncomputable def M.laws_markRemarkS_l2_C {R : Type} (s : Int × Int × List Row) (kn : Int × Int × List Row → Option R) (ke : Int × Int × Bool × List Row → Option R) : Option R := match s with
  | (k', i, v) =>
    bif decide (i < (↑v.length : Int)) then
     ((idx v i).bind fun row143 =>
      (v[i.toNat]?.bind fun row144 =>
       ((M.laws_markText (IntKind.i64.wrap (k' + 1))).bind fun r146 =>
        ((idx (v.set i.toNat (splice row144 0 [D.int IntKind.i64 k'])) i).bind fun row147 =>
         (((v.set i.toNat (splice row144 0 [D.int IntKind.i64 k']))[i.toNat]?).bind fun row148 =>
          (kn ((IntKind.i64.wrap (IntKind.i64.wrap (k' + 1) + 1), IntKind.i64.wrap (i + 1), (v.set i.toNat (splice row144 0 [D.int IntKind.i64 k'])).set i.toNat (splice row148 1 [D.str r146]))))))))) else (ke ((k', i, decide (i < (↑v.length : Int)), v)))
noncomputable def M.laws_markRemarkS_l2_b (s : Int × Int × List Row) : Option ((Int × Int × List Row) ⊕ (Int × Int × Bool × List Row)) := M.laws_markRemarkS_l2_C s (fun s => some (.inl s)) (fun t => some (.inr t))
noncomputable def M.laws_markRemarkS_l2 (s : Int × Int × List Row) : Option (Int × Int × Bool × List Row) := loopM (M.laws_markRemarkS_l2_b) s
theorem M.laws_markRemarkS_l2_n {R : Type} (s : Int × Int × List Row) (kn : Int × Int × List Row → Option R) (ke : Int × Int × Bool × List Row → Option R) : M.laws_markRemarkS_l2_C s kn ke = (M.laws_markRemarkS_l2_b s).bind fun r => match r with | .inl s => kn s | .inr t => ke t := by
  obtain ⟨k', i, v⟩ := s
  all_goals
    simp only [M.laws_markRemarkS_l2_b, M.laws_markRemarkS_l2_C, bif_bind, bind_bind, some_bind, none_bind, sumE_bind, optE_bind, letE_bind]
def A.laws_markRemarkS_l2 : Alt (Ex × St) := .leaf (Int × Int × Bool × List Row) (fun t => (Ex.exit 0, { tm := [(0, V.own 100000 0), (1, V.d (D.int IntKind.i64 t.fst)), (5, V.d (D.int IntKind.i64 t.snd.fst)), (9, V.d (D.bool t.snd.snd.fst))], mem := [(100000, Cell.arr false true 0 2 t.snd.snd.snd)] }))
def T.laws_markRemarkS_l2 (s : Int × Int × List Row) : St := match s with
  | (k', i, v) => { tm := [(0, V.own 100000 0), (1, V.d (D.int IntKind.i64 k')), (5, V.d (D.int IntKind.i64 i))], mem := [(100000, Cell.arr false true 0 2 v)] }
noncomputable def K.laws_markRemarkS_l2 : KonC := (kcons 18 (P.laws_markText M.laws_markText pnil) knil)
noncomputable def L.laws_markRemarkS_l2 : LoopC := lnil
theorem E.laws_markRemarkS_l2 {R : Type} (s : Int × Int × List Row) (k : Ex → St → Option R) : denC X0 (K.laws_markRemarkS_l2) (L.laws_markRemarkS_l2) 7 (loopCode X0.P 7 2) (T.laws_markRemarkS_l2 s) k = M.laws_markRemarkS_l2_C s (fun s => k .normal (T.laws_markRemarkS_l2 s)) (fun t => (A.laws_markRemarkS_l2).go t fun r => k r.1 r.2) := by
  obtain ⟨k', i, v⟩ := s
  all_goals kernel_rfl
theorem LC.laws_markRemarkS_l2 : loops (loopCode X0.P 7 2) = [] := by kernel_rfl
noncomputable def PL.laws_markRemarkS_l2 (S : St) : ResA (Ex × St) := match S with
  | { tm := [(0, V.own 100000 0), (1, V.d (D.int IntKind.i64 k')), (5, V.d (D.int IntKind.i64 i))], mem := [(100000, Cell.arr false true 0 2 v)] } => ⟨A.laws_markRemarkS_l2, M.laws_markRemarkS_l2 ((k', i, v))⟩
  | _ => .none
theorem C.laws_markRemarkS_l2 : LpOk X0 7 2 (loopCode X0.P 7 2) (PL.laws_markRemarkS_l2) := by
  refine ⟨by kernel_rfl, fun S r hr => ?_⟩
  unfold PL.laws_markRemarkS_l2 at hr
  split at hr
  · obtain ⟨x, hx, rfl⟩ := ResA.val_some hr
    exact lp_sound (K := K.laws_markRemarkS_l2) (L := L.laws_markRemarkS_l2) (b := M.laws_markRemarkS_l2_b) (tm := T.laws_markRemarkS_l2) (tx := (A.laws_markRemarkS_l2).enc) (kcons_ok (P.laws_markText_ok C.laws_markText pnil_ok) knil_ok) (by rw [LC.laws_markRemarkS_l2]; exact LOk.nil) (fun s => by rw [E.laws_markRemarkS_l2, M.laws_markRemarkS_l2_n]; congr 1; funext r; cases r <;> first | rfl | exact Alt.go_eq _ _ _) (by intro t; intro h; cases h) hx (s := (_, _, _))
  · cases hr
noncomputable def M.laws_markRemarkS_C {R : Type} (k' : Int) (c : List Row) (k : Int × List Row → Option R) : Option R :=
  (M.laws_markRemarkS_l2 ((k', 0, c))).bind fun t149 => (k ((t149.fst, t149.snd.snd.snd)))
noncomputable def M.laws_markRemarkS (k' : Int) (c : List Row) : Option (Int × List Row) := M.laws_markRemarkS_C k' c some
theorem M.laws_markRemarkS_n {R : Type} (k' : Int) (c : List Row) (k : Int × List Row → Option R) : M.laws_markRemarkS_C k' c k = (M.laws_markRemarkS_C k' c some).bind k := by
  simp only [M.laws_markRemarkS_C, bif_bind, bind_bind, some_bind, none_bind, sumE_bind, optE_bind, letE_bind]
noncomputable def K.laws_markRemarkS : KonC := knil
noncomputable def L.laws_markRemarkS : LoopC := (lcons 2 (PL.laws_markRemarkS_l2) lnil)
theorem E.laws_markRemarkS {R : Type} (k' : Int) (c : List Row) (k : List Row → List Cell → Option R) : bodyC X0 (K.laws_markRemarkS) (L.laws_markRemarkS) 7 [V.own 100000 0, V.d (D.int IntKind.i64 k')] [Cell.arr false true 0 2 c] k = M.laws_markRemarkS_C k' c (fun r => k [[D.int IntKind.i64 r.fst]] [Cell.arr false true 0 2 r.snd]) := by kernel_rfl
theorem LC.laws_markRemarkS : loops (codeOf X0.P 7) = [loopCode X0.P 7 2] := by kernel_rfl
theorem C.laws_markRemarkS : H.laws_markRemarkS (M.laws_markRemarkS) := by
  intro k' c r h
  exact fn_sound (enc := fun r => ([[D.int IntKind.i64 r.fst]], [Cell.arr false true 0 2 r.snd])) (K := K.laws_markRemarkS) (L := L.laws_markRemarkS) (by kernel_rfl) knil_ok (by rw [LC.laws_markRemarkS]; exact (LOk.cons (LpOk.at (C.laws_markRemarkS_l2) (fun _ => rfl)) LOk.nil)) (by rw [E.laws_markRemarkS, M.laws_markRemarkS_n] <;> rfl) h

/-! laws_heldRemarkS -/
def H.laws_heldRemarkS (o : List Row → Int → Option (Int)) : Prop := ∀ (a : List Row) (k' : Int) (r : Int), o a k' = some r → call X0 8 [V.d (D.sl false 2 a), V.d (D.int IntKind.i64 k')] [] = some ([[D.int IntKind.i64 r]], [])
def P.laws_heldRemarkS (o : List Row → Int → Option (Int)) (q : List V → List Cell → Res (List Row × List Cell)) (a : List V) (c : List Cell) : Res (List Row × List Cell) := match a, c with
  | [V.d (D.sl false 2 a), V.d (D.int IntKind.i64 k')], [] => ⟨Int, o a k', fun r => ([[D.int IntKind.i64 r]], [])⟩
  | a, c => q a c
theorem P.laws_heldRemarkS_ok {o : List Row → Int → Option (Int)} {q : List V → List Cell → Res (List Row × List Cell)} (h : H.laws_heldRemarkS o) (hq : FnOk X0 8 q) : FnOk X0 8 (P.laws_heldRemarkS o q) := by
  intro a c r hr
  unfold P.laws_heldRemarkS at hr
  split at hr
  · obtain ⟨x, hx, rfl⟩ := Res.val_some hr
    exact h _ _ x hx
  · exact hq _ _ _ hr
noncomputable def M.laws_heldRemarkS_l2_C {R : Type} (a : List Row) (s : Int × Int) (kn : Int × Int → Option R) (ke : (Unit) ⊕ (Int × Int × Bool) → Option R) : Option R := match s with
  | (k', i) =>
    bif decide (i < (↑a.length : Int)) then
     ((idx a i).bind fun row151 =>
      ((cInt IntKind.i64 row151 0).bind fun n152 =>
       (bif n152 != k' then (ke (.inl ())) else
        ((idx a i).bind fun row153 =>
         ((cStr row153 1).bind fun s154 =>
          ((M.laws_markText (IntKind.i64.wrap (k' + 1))).bind fun r155 =>
           (bif !s154 == r155 then (ke (.inl ())) else (kn ((IntKind.i64.wrap (IntKind.i64.wrap (k' + 1) + 1), IntKind.i64.wrap (i + 1))))))))))) else (ke (.inr ((k', i, decide (i < (↑a.length : Int))))))
noncomputable def M.laws_heldRemarkS_l2_b (a : List Row) (s : Int × Int) : Option ((Int × Int) ⊕ ((Unit) ⊕ (Int × Int × Bool))) := M.laws_heldRemarkS_l2_C a s (fun s => some (.inl s)) (fun t => some (.inr t))
noncomputable def M.laws_heldRemarkS_l2 (a : List Row) (s : Int × Int) : Option ((Unit) ⊕ (Int × Int × Bool)) := loopM (M.laws_heldRemarkS_l2_b a) s
theorem M.laws_heldRemarkS_l2_n {R : Type} (a : List Row) (s : Int × Int) (kn : Int × Int → Option R) (ke : (Unit) ⊕ (Int × Int × Bool) → Option R) : M.laws_heldRemarkS_l2_C a s kn ke = (M.laws_heldRemarkS_l2_b a s).bind fun r => match r with | .inl s => kn s | .inr t => ke t := by
  obtain ⟨k', i⟩ := s
  all_goals
    simp only [M.laws_heldRemarkS_l2_b, M.laws_heldRemarkS_l2_C, bif_bind, bind_bind, some_bind, none_bind, sumE_bind, optE_bind, letE_bind]
def A.laws_heldRemarkS_l2 (a : List Row) : Alt (Ex × St) := .sum (.leaf (Unit) (fun t => (Ex.ret, { tm := [(4, V.d (D.int IntKind.i64 (-1)))], mem := [] }))) (.leaf (Int × Int × Bool) (fun t => (Ex.exit 0, { tm := [(0, V.d (D.sl false 2 a)), (1, V.d (D.int IntKind.i64 t.fst)), (5, V.d (D.int IntKind.i64 t.snd.fst)), (9, V.d (D.bool t.snd.snd))], mem := [] })))
def T.laws_heldRemarkS_l2 (a : List Row) (s : Int × Int) : St := match s with
  | (k', i) => { tm := [(0, V.d (D.sl false 2 a)), (1, V.d (D.int IntKind.i64 k')), (5, V.d (D.int IntKind.i64 i))], mem := [] }
noncomputable def K.laws_heldRemarkS_l2 : KonC := (kcons 18 (P.laws_markText M.laws_markText pnil) knil)
noncomputable def L.laws_heldRemarkS_l2 : LoopC := lnil
theorem E.laws_heldRemarkS_l2 {R : Type} (a : List Row) (s : Int × Int) (k : Ex → St → Option R) : denC X0 (K.laws_heldRemarkS_l2) (L.laws_heldRemarkS_l2) 8 (loopCode X0.P 8 2) (T.laws_heldRemarkS_l2 a s) k = M.laws_heldRemarkS_l2_C a s (fun s => k .normal (T.laws_heldRemarkS_l2 a s)) (fun t => (A.laws_heldRemarkS_l2 a).go t fun r => k r.1 r.2) := by
  obtain ⟨k', i⟩ := s
  all_goals kernel_rfl
theorem LC.laws_heldRemarkS_l2 : loops (loopCode X0.P 8 2) = [] := by kernel_rfl
noncomputable def PL.laws_heldRemarkS_l2 (S : St) : ResA (Ex × St) := match S with
  | { tm := [(0, V.d (D.sl false 2 a)), (1, V.d (D.int IntKind.i64 k')), (5, V.d (D.int IntKind.i64 i))], mem := [] } => ⟨A.laws_heldRemarkS_l2 a, M.laws_heldRemarkS_l2 a ((k', i))⟩
  | _ => .none
theorem C.laws_heldRemarkS_l2 : LpOk X0 8 2 (loopCode X0.P 8 2) (PL.laws_heldRemarkS_l2) := by
  refine ⟨by kernel_rfl, fun S r hr => ?_⟩
  unfold PL.laws_heldRemarkS_l2 at hr
  split at hr
  · obtain ⟨x, hx, rfl⟩ := ResA.val_some hr
    exact lp_sound (K := K.laws_heldRemarkS_l2) (L := L.laws_heldRemarkS_l2) (b := M.laws_heldRemarkS_l2_b _) (tm := T.laws_heldRemarkS_l2 _) (tx := (A.laws_heldRemarkS_l2 _).enc) (kcons_ok (P.laws_markText_ok C.laws_markText pnil_ok) knil_ok) (by rw [LC.laws_heldRemarkS_l2]; exact LOk.nil) (fun s => by rw [E.laws_heldRemarkS_l2, M.laws_heldRemarkS_l2_n]; congr 1; funext r; cases r <;> first | rfl | exact Alt.go_eq _ _ _) (by intro t; rcases t with t | t <;> first | (intro h; cases h) | (intro h; cases h)) hx (s := (_, _))
  · cases hr
noncomputable def M.laws_heldRemarkS_C {R : Type} (a : List Row) (k' : Int) (k : Int → Option R) : Option R :=
  (M.laws_heldRemarkS_l2 a ((k', 0))).bind fun u158 =>
  sumE u158 (fun t156 => (k (-1))) fun u159 =>
   letE u159 fun t157 => (k t157.fst)
noncomputable def M.laws_heldRemarkS (a : List Row) (k' : Int) : Option (Int) := M.laws_heldRemarkS_C a k' some
theorem M.laws_heldRemarkS_n {R : Type} (a : List Row) (k' : Int) (k : Int → Option R) : M.laws_heldRemarkS_C a k' k = (M.laws_heldRemarkS_C a k' some).bind k := by
  simp only [M.laws_heldRemarkS_C, bif_bind, bind_bind, some_bind, none_bind, sumE_bind, optE_bind, letE_bind]
noncomputable def K.laws_heldRemarkS : KonC := knil
noncomputable def L.laws_heldRemarkS : LoopC := (lcons 2 (PL.laws_heldRemarkS_l2) lnil)
theorem E.laws_heldRemarkS {R : Type} (a : List Row) (k' : Int) (k : List Row → List Cell → Option R) : bodyC X0 (K.laws_heldRemarkS) (L.laws_heldRemarkS) 8 [V.d (D.sl false 2 a), V.d (D.int IntKind.i64 k')] [] k = M.laws_heldRemarkS_C a k' (fun r => k [[D.int IntKind.i64 r]] []) := by kernel_rfl
theorem LC.laws_heldRemarkS : loops (codeOf X0.P 8) = [loopCode X0.P 8 2] := by kernel_rfl
theorem C.laws_heldRemarkS : H.laws_heldRemarkS (M.laws_heldRemarkS) := by
  intro a k' r h
  exact fn_sound (enc := fun r => ([[D.int IntKind.i64 r]], [])) (K := K.laws_heldRemarkS) (L := L.laws_heldRemarkS) (by kernel_rfl) knil_ok (by rw [LC.laws_heldRemarkS]; exact (LOk.cons (LpOk.at (C.laws_heldRemarkS_l2) (fun _ => rfl)) LOk.nil)) (by rw [E.laws_heldRemarkS, M.laws_heldRemarkS_n] <;> rfl) h

/-! laws_FnExactStyleOf -/
def H.laws_FnExactStyleOf (o : List UInt8 → Int → Option (Bool)) : Prop := ∀ (aS : List UInt8) (aW : Int) (r : Bool), o aS aW = some r → call X0 3 [V.d (D.str aS), V.d (D.int IntKind.i64 aW)] [] = some ([[D.bool r]], [])
def P.laws_FnExactStyleOf (o : List UInt8 → Int → Option (Bool)) (q : List V → List Cell → Res (List Row × List Cell)) (a : List V) (c : List Cell) : Res (List Row × List Cell) := match a, c with
  | [V.d (D.str aS), V.d (D.int IntKind.i64 aW)], [] => ⟨Bool, o aS aW, fun r => ([[D.bool r]], [])⟩
  | a, c => q a c
theorem P.laws_FnExactStyleOf_ok {o : List UInt8 → Int → Option (Bool)} {q : List V → List Cell → Res (List Row × List Cell)} (h : H.laws_FnExactStyleOf o) (hq : FnOk X0 3 q) : FnOk X0 3 (P.laws_FnExactStyleOf o q) := by
  intro a c r hr
  unfold P.laws_FnExactStyleOf at hr
  split at hr
  · obtain ⟨x, hx, rfl⟩ := Res.val_some hr
    exact h _ _ x hx
  · exact hq _ _ _ hr
noncomputable def M.laws_FnExactStyleOf_C {R : Type} (aS : List UInt8) (aW : Int) (k : Bool → Option R) : Option R :=
  bif decide ((↑aS.length : Int) > 1048576) then (k true) else
   ((M.spec_StyleOf aS aW).bind fun r96 =>
    ((M.impl_StyleOf aS aW).bind fun r130 =>
     ((M.laws_eqRemarkS r130 r96).bind fun r142 =>
      (bif !r142 then (k false) else
       ((M.laws_markRemarkS 1 r130).bind fun r150 =>
        ((M.laws_heldRemarkS r150.snd 1).bind fun r160 =>
         (bif decide (r160 < 0) then (k false) else
          (bif r160 != r150.fst then (k false) else
           ((M.impl_StyleOf aS aW).bind fun r161 =>
            ((M.laws_eqRemarkS r161 r96).bind fun r162 =>
             (bif !r162 then (k false) else
              ((M.laws_heldRemarkS r150.snd 1).bind fun r163 =>
               (bif decide (r163 < 0) then (k false) else (bif r163 != r150.fst then (k false) else (k true)))))))))))))))
noncomputable def M.laws_FnExactStyleOf (aS : List UInt8) (aW : Int) : Option (Bool) := M.laws_FnExactStyleOf_C aS aW some
theorem M.laws_FnExactStyleOf_n {R : Type} (aS : List UInt8) (aW : Int) (k : Bool → Option R) : M.laws_FnExactStyleOf_C aS aW k = (M.laws_FnExactStyleOf_C aS aW some).bind k := by
  simp only [M.laws_FnExactStyleOf_C, bif_bind, bind_bind, some_bind, none_bind, sumE_bind, optE_bind, letE_bind]
noncomputable def K.laws_FnExactStyleOf : KonC := (kcons 4 (P.spec_StyleOf M.spec_StyleOf pnil) (kcons 5 (P.impl_StyleOf M.impl_StyleOf pnil) (kcons 6 (P.laws_eqRemarkS M.laws_eqRemarkS pnil) (kcons 7 (P.laws_markRemarkS M.laws_markRemarkS pnil) (kcons 8 (P.laws_heldRemarkS M.laws_heldRemarkS pnil) knil)))))
noncomputable def L.laws_FnExactStyleOf : LoopC := lnil
theorem E.laws_FnExactStyleOf {R : Type} (aS : List UInt8) (aW : Int) (k : List Row → List Cell → Option R) : bodyC X0 (K.laws_FnExactStyleOf) (L.laws_FnExactStyleOf) 3 [V.d (D.str aS), V.d (D.int IntKind.i64 aW)] [] k = M.laws_FnExactStyleOf_C aS aW (fun r => k [[D.bool r]] []) := by kernel_rfl
theorem LC.laws_FnExactStyleOf : loops (codeOf X0.P 3) = [] := by kernel_rfl
theorem C.laws_FnExactStyleOf : H.laws_FnExactStyleOf (M.laws_FnExactStyleOf) := by
  intro aS aW r h
  exact fn_sound (enc := fun r => ([[D.bool r]], [])) (K := K.laws_FnExactStyleOf) (L := L.laws_FnExactStyleOf) (by kernel_rfl) (kcons_ok (P.spec_StyleOf_ok C.spec_StyleOf pnil_ok) (kcons_ok (P.impl_StyleOf_ok C.impl_StyleOf pnil_ok) (kcons_ok (P.laws_eqRemarkS_ok C.laws_eqRemarkS pnil_ok) (kcons_ok (P.laws_markRemarkS_ok C.laws_markRemarkS pnil_ok) (kcons_ok (P.laws_heldRemarkS_ok C.laws_heldRemarkS pnil_ok) knil_ok))))) (by rw [LC.laws_FnExactStyleOf]; exact LOk.nil) (by rw [E.laws_FnExactStyleOf, M.laws_FnExactStyleOf_n] <;> rfl) h


end Go.Proofs.YtfbemlhfieemhabDoor
