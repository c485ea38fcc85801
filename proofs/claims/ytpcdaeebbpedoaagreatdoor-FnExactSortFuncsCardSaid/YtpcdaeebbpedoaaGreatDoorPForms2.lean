import Derived.Test.YtpcdaeebbpedoaaGreatDoorPForms
namespace Go.Proofs.YtpcdaeebbpedoaaGreatDoor
open Go Go.Vm
set_option linter.unusedVariables false
set_option linter.unusedSimpArgs false
noncomputable section
def M.slices_stableCmpFunc_l2_C {R : Type} (n' : Int) (blockSize : Int) (s : Int × Int × List Row) (kn : Int × Int × List Row → Option R) (ke : Int × Int × List Row → Option R) : Option R := match s with
  | (a, b, v) =>
    bif decide (b ≤ n') then
     ((M.slices_insertionSortCmpFunc a b v).bind fun r568 => (kn ((b, IntKind.i64.wrap (b + blockSize), r568)))) else (ke ((a, b, v)))
def M.slices_stableCmpFunc_l2_b (n' : Int) (blockSize : Int) (s : Int × Int × List Row) := M.slices_stableCmpFunc_l2_C n' blockSize s (fun s => some (Sum.inl s)) fun t => some (Sum.inr t)
def M.slices_stableCmpFunc_l2 (n' : Int) (blockSize : Int) (s : Int × Int × List Row) : Option (Int × Int × List Row) := loopM (M.slices_stableCmpFunc_l2_b n' blockSize) s
def F.slices_stableCmpFunc_l2 : LE X0 34 := le 2 (pSt [pAt 0 (pO 100000 0), pAt 1 pI, pAt 2 (pClo 20 [] []), pAt 6 pI, pAt 7 pI, pAt 8 pI] [pAt 100000 (cA false false 0 5)]) (fun x => (x.1.2.2.2.2.1, x.1.2.2.2.2.2.1, x.2.1)) (fun x s => (((), x.1.2.1, ((), ()), x.1.2.2.2.1, s.1, s.2.1, ()), (s.2.2, ()))) (fun x => .leaf (Int × Int × List Row) (fun t => (Ex.exit 0, { tm := [(0, V.own 100000 0), (1, V.d (D.int IntKind.i64 x.1.2.1)), (2, V.clo 20 [] []), (6, V.d (D.int IntKind.i64 x.1.2.2.2.1)), (7, V.d (D.int IntKind.i64 t.fst)), (8, V.d (D.int IntKind.i64 t.snd.fst)), (13, V.d (D.bool false))], mem := [(100000, Cell.arr false false 0 5 t.snd.snd)] }))) (fun x => M.slices_stableCmpFunc_l2_C x.1.2.1 x.1.2.2.2.1) [fe C.slices_insertionSortCmpFunc] [] (by rintro _ _ ⟨_, _, _⟩ _ _ <;> simp only [M.slices_stableCmpFunc_l2_C, nb] <;> rfl)
def M.slices_stableCmpFunc_l9_C {R : Type} (n' : Int) (blockSize : Int) (s : Int × Int × List Row) (kn : Int × Int × List Row → Option R) (ke : Int × Int × List Row → Option R) : Option R := match s with
  | (a, b, v) =>
    bif decide (b ≤ n') then
     ((M.slices_symMergeCmpFunc a (IntKind.i64.wrap (a + blockSize)) b v).bind fun r707 => (kn ((b, IntKind.i64.wrap (b + IntKind.i64.wrap (2 * blockSize)), r707)))) else (ke ((a, b, v)))
def M.slices_stableCmpFunc_l9_b (n' : Int) (blockSize : Int) (s : Int × Int × List Row) := M.slices_stableCmpFunc_l9_C n' blockSize s (fun s => some (Sum.inl s)) fun t => some (Sum.inr t)
def M.slices_stableCmpFunc_l9 (n' : Int) (blockSize : Int) (s : Int × Int × List Row) : Option (Int × Int × List Row) := loopM (M.slices_stableCmpFunc_l9_b n' blockSize) s
def F.slices_stableCmpFunc_l9 : LE X0 34 := le 9 (pSt [pAt 0 (pO 100000 0), pAt 1 pI, pAt 2 (pClo 20 [] []), pAt 6 pI, pAt 7 pI, pAt 8 pI] [pAt 100000 (cA false false 0 5)]) (fun x => (x.1.2.2.2.2.1, x.1.2.2.2.2.2.1, x.2.1)) (fun x s => (((), x.1.2.1, ((), ()), x.1.2.2.2.1, s.1, s.2.1, ()), (s.2.2, ()))) (fun x => .leaf (Int × Int × List Row) (fun t => (Ex.exit 4, { tm := [(0, V.own 100000 0), (1, V.d (D.int IntKind.i64 x.1.2.1)), (2, V.clo 20 [] []), (6, V.d (D.int IntKind.i64 x.1.2.2.2.1)), (7, V.d (D.int IntKind.i64 t.fst)), (8, V.d (D.int IntKind.i64 t.snd.fst)), (35, V.d (D.bool false))], mem := [(100000, Cell.arr false false 0 5 t.snd.snd)] }))) (fun x => M.slices_stableCmpFunc_l9_C x.1.2.1 x.1.2.2.2.1) [fe C.slices_symMergeCmpFunc] [] (by rintro _ _ ⟨_, _, _⟩ _ _ <;> simp only [M.slices_stableCmpFunc_l9_C, nb] <;> rfl)
def M.slices_stableCmpFunc_l7_C {R : Type} (n' : Int) (s : Int × List Row) (kn : Int × List Row → Option R) (ke : Int × List Row → Option R) : Option R := match s with
  | (blockSize, v) =>
    bif decide (blockSize < n') then
     ((M.slices_stableCmpFunc_l9 n' blockSize ((0, IntKind.i64.wrap (2 * blockSize), v))).bind fun t708 =>
      (bif decide (IntKind.i64.wrap (t708.fst + blockSize) < n') then
       ((M.slices_symMergeCmpFunc t708.fst (IntKind.i64.wrap (t708.fst + blockSize)) n' t708.snd.snd).bind fun r709 => (kn ((IntKind.i64.wrap (blockSize * 2), r709)))) else (kn ((IntKind.i64.wrap (blockSize * 2), t708.snd.snd))))) else (ke ((blockSize, v)))
def M.slices_stableCmpFunc_l7_b (n' : Int) (s : Int × List Row) := M.slices_stableCmpFunc_l7_C n' s (fun s => some (Sum.inl s)) fun t => some (Sum.inr t)
def M.slices_stableCmpFunc_l7 (n' : Int) (s : Int × List Row) : Option (Int × List Row) := loopM (M.slices_stableCmpFunc_l7_b n') s
def F.slices_stableCmpFunc_l7 : LE X0 34 := le 7 (pSt [pAt 0 (pO 100000 0), pAt 1 pI, pAt 2 (pClo 20 [] []), pAt 6 pI] [pAt 100000 (cA false false 0 5)]) (fun x => (x.1.2.2.2.1, x.2.1)) (fun x s => (((), x.1.2.1, ((), ()), s.1, ()), (s.2, ()))) (fun x => .leaf (Int × List Row) (fun t => (Ex.exit 2, { tm := [(0, V.own 100000 0), (1, V.d (D.int IntKind.i64 x.1.2.1)), (2, V.clo 20 [] []), (6, V.d (D.int IntKind.i64 t.fst)), (30, V.d (D.bool false))], mem := [(100000, Cell.arr false false 0 5 t.snd)] }))) (fun x => M.slices_stableCmpFunc_l7_C x.1.2.1) [fe C.slices_symMergeCmpFunc] [F.slices_stableCmpFunc_l9] (by rintro _ _ ⟨_, _⟩ _ _ <;> simp only [M.slices_stableCmpFunc_l7_C, nb] <;> rfl)
def M.slices_stableCmpFunc_C {R : Type} (n' : Int) (c : List Row) (k : List Row → Option R) : Option R :=
  (M.slices_stableCmpFunc_l2 n' 20 ((0, 20, c))).bind fun t569 =>
   ((M.slices_insertionSortCmpFunc t569.fst n' t569.snd.snd).bind fun r570 => ((M.slices_stableCmpFunc_l7 n' ((20, r570))).bind fun t710 => (k t710.snd)))
def M.slices_stableCmpFunc (n' : Int) (c : List Row) : Option (List Row) := M.slices_stableCmpFunc_C n' c some
theorem C.slices_stableCmpFunc : S.slices_stableCmpFunc.ok X0 fun x => M.slices_stableCmpFunc x.1.2.1 x.2.1 := fnS (fun x => M.slices_stableCmpFunc_C x.1.2.1 x.2.1) [fe C.slices_insertionSortCmpFunc] [F.slices_stableCmpFunc_l2, F.slices_stableCmpFunc_l7] (by intros; simp only [M.slices_stableCmpFunc_C, nb] <;> rfl)
def M.slices_SortStableFunc_C {R : Type} (c : List Row) (k : List Row → Option R) : Option R :=
  (M.slices_stableCmpFunc ((↑c.length : Int)) c).bind fun r711 => (k r711)
def M.slices_SortStableFunc (c : List Row) : Option (List Row) := M.slices_SortStableFunc_C c some
theorem C.slices_SortStableFunc : S.slices_SortStableFunc.ok X0 fun x => M.slices_SortStableFunc x.2.1 := fnS (fun x => M.slices_SortStableFunc_C x.2.1) [fe C.slices_stableCmpFunc] [] (by intros; simp only [M.slices_SortStableFunc_C, nb] <;> rfl)
def M.impl_tree_add_l3_C {R : Type} (rec_impl_tree_add : Int → Int → List UInt8 → List UInt8 → List Row → List Row → Option (List Row)) (s : (List Row × Int × Int × List Row × Int × Int × List UInt8 × List UInt8) ⊕ (List Row × Int × Int × List Row × Int × Int × List UInt8 × List UInt8 × List Row)) (kn : (List Row × Int × Int × List Row × Int × Int × List UInt8 × List UInt8) ⊕ (List Row × Int × Int × List Row × Int × Int × List UInt8 × List UInt8 × List Row) → Option R) (ke : (List Row × Int × Int × List Row × Int × Int × List UInt8 × List UInt8) ⊕ (List Row × Int × Int × List Row × Int × Int × List UInt8 × List UInt8 × List Row) → Option R) : Option R := match s with
  | .inl ((v18, v19, v20, x', x'1, x'2, x'3, x'4)) =>
    bif decide (v20 < v19) then
     ((idx v18 v20).bind fun row713 =>
      ((cInt IntKind.i64 row713 0).bind fun n714 =>
       ((cInt IntKind.i64 row713 1).bind fun n715 =>
        ((cStr row713 2).bind fun s716 =>
         ((cStr row713 3).bind fun s717 =>
          ((cSl 5 row713 4).bind fun rows718 =>
           ((rec_impl_tree_add n714 n715 s716 s717 rows718 x').bind fun r719 =>
            (kn (.inr ((v18, v19, IntKind.i64.wrap (v20 + 1), r719, x'1, x'2, x'3, x'4, [[D.int IntKind.i64 (IntKind.i64.wrap ((↑r719.length : Int) - 1))]]))))))))))) else (ke (.inl ((v18, v19, v20, x', x'1, x'2, x'3, x'4))))
  | .inr ((v18, v19, v20, x', x'1, x'2, x'3, x'4, x'5)) =>
    bif decide (v20 < v19) then
     ((idx v18 v20).bind fun row720 =>
      ((cInt IntKind.i64 row720 0).bind fun n721 =>
       ((cInt IntKind.i64 row720 1).bind fun n722 =>
        ((cStr row720 2).bind fun s723 =>
         ((cStr row720 3).bind fun s724 =>
          ((cSl 5 row720 4).bind fun rows725 =>
           ((rec_impl_tree_add n721 n722 s723 s724 rows725 x').bind fun r726 =>
            (bif ((x'5.length + [[D.int IntKind.i64 (IntKind.i64.wrap ((↑r726.length : Int) - 1))]].length) * 8).ble 140737488355328 then
             (bif (x'5.length + [[D.int IntKind.i64 (IntKind.i64.wrap ((↑r726.length : Int) - 1))]].length).ble 140737488355328 then
              (kn (.inr ((v18, v19, IntKind.i64.wrap (v20 + 1), r726, x'1, x'2, x'3, x'4, x'5 ++ [[D.int IntKind.i64 (IntKind.i64.wrap ((↑r726.length : Int) - 1))]])))) else none) else none)))))))) else (ke (.inr ((v18, v19, v20, x', x'1, x'2, x'3, x'4, x'5))))
def M.impl_tree_add_l3_b (rec_impl_tree_add : Int → Int → List UInt8 → List UInt8 → List Row → List Row → Option (List Row)) (s : (List Row × Int × Int × List Row × Int × Int × List UInt8 × List UInt8) ⊕ (List Row × Int × Int × List Row × Int × Int × List UInt8 × List UInt8 × List Row)) := M.impl_tree_add_l3_C rec_impl_tree_add s (fun s => some (Sum.inl s)) fun t => some (Sum.inr t)
def M.impl_tree_add_l3 (rec_impl_tree_add : Int → Int → List UInt8 → List UInt8 → List Row → List Row → Option (List Row)) (s : (List Row × Int × Int × List Row × Int × Int × List UInt8 × List UInt8) ⊕ (List Row × Int × Int × List Row × Int × Int × List UInt8 × List UInt8 × List Row)) : Option ((List Row × Int × Int × List Row × Int × Int × List UInt8 × List UInt8) ⊕ (List Row × Int × Int × List Row × Int × Int × List UInt8 × List UInt8 × List Row)) := loopM (M.impl_tree_add_l3_b rec_impl_tree_add) s
def F.impl_tree_add_l3 {rec_impl_tree_add : Int → Int → List UInt8 → List UInt8 → List Row → List Row → Option (List Row)} (h_impl_tree_add : S.impl_tree_add.ok X0 fun x => rec_impl_tree_add x.1.1.1 x.1.1.2.1 x.1.1.2.2.1 x.1.1.2.2.2.1 x.1.1.2.2.2.2.1 x.1.2.1) : LE X0 36 := le 3 (pOr (pSt [pAt 1 (pO 300000 0), pAt 5 (pP 300001 0), pAt 18 (pL false 5), pAt 19 pI, pAt 20 pI] [pAt 300000 (cA false false 0 5), pAt 300001 (cB 39 [pI, pI, pS, pS, pNil 1])]) (pSt [pAt 1 (pO 300000 0), pAt 5 (pP 300001 0), pAt 18 (pL false 5), pAt 19 pI, pAt 20 pI] [pAt 300000 (cA false false 0 5), pAt 300001 (cB 39 [pI, pI, pS, pS, pO 300002 0]), pAt 300002 (cA false true 0 1)])) (σ := (List Row × Int × Int × List Row × Int × Int × List UInt8 × List UInt8) ⊕ (List Row × Int × Int × List Row × Int × Int × List UInt8 × List UInt8 × List Row)) (fun x => (match x with | .inl x => .inl ((x.1.2.2.1, x.1.2.2.2.1, x.1.2.2.2.2.1, x.2.1, x.2.2.1.1, x.2.2.1.2.1, x.2.2.1.2.2.1, x.2.2.1.2.2.2.1)) | .inr x => .inr ((x.1.2.2.1, x.1.2.2.2.1, x.1.2.2.2.2.1, x.2.1, x.2.2.1.1, x.2.2.1.2.1, x.2.2.1.2.2.1, x.2.2.1.2.2.2.1, x.2.2.2.1)))) (fun x s => (match s with | .inl s => .inl ((((), (), s.1, s.2.1, s.2.2.1, ()), (s.2.2.2.1, (s.2.2.2.2.1, s.2.2.2.2.2.1, s.2.2.2.2.2.2.1, s.2.2.2.2.2.2.2, (), ()), ()))) | .inr s => .inr ((((), (), s.1, s.2.1, s.2.2.1, ()), (s.2.2.2.1, (s.2.2.2.2.1, s.2.2.2.2.2.1, s.2.2.2.2.2.2.1, s.2.2.2.2.2.2.2.1, (), ()), s.2.2.2.2.2.2.2.2, ()))))) (fun x => .sum (.leaf (List Row × Int × Int × List Row × Int × Int × List UInt8 × List UInt8) (fun t => (Ex.exit 0, { tm := [(1, V.own 300000 0), (5, V.ptr 300001 0), (18, V.d (D.sl false 5 t.fst)), (19, V.d (D.int IntKind.i64 t.snd.fst)), (20, V.d (D.int IntKind.i64 t.snd.snd.fst)), (21, V.d (D.bool false))], mem := [(300000, Cell.arr false false 0 5 t.snd.snd.snd.fst), (300001, Cell.box 39 [V.d (D.int IntKind.i64 t.snd.snd.snd.snd.fst), V.d (D.int IntKind.i64 t.snd.snd.snd.snd.snd.fst), V.d (D.str t.snd.snd.snd.snd.snd.snd.fst), V.d (D.str t.snd.snd.snd.snd.snd.snd.snd), V.nil 1])] }))) (.leaf (List Row × Int × Int × List Row × Int × Int × List UInt8 × List UInt8 × List Row) (fun t => (Ex.exit 0, { tm := [(1, V.own 300000 0), (5, V.ptr 300001 0), (18, V.d (D.sl false 5 t.fst)), (19, V.d (D.int IntKind.i64 t.snd.fst)), (20, V.d (D.int IntKind.i64 t.snd.snd.fst)), (21, V.d (D.bool false))], mem := [(300000, Cell.arr false false 0 5 t.snd.snd.snd.fst), (300001, Cell.box 39 [V.d (D.int IntKind.i64 t.snd.snd.snd.snd.fst), V.d (D.int IntKind.i64 t.snd.snd.snd.snd.snd.fst), V.d (D.str t.snd.snd.snd.snd.snd.snd.fst), V.d (D.str t.snd.snd.snd.snd.snd.snd.snd.fst), V.own 300002 0]), (300002, Cell.arr false true 0 1 t.snd.snd.snd.snd.snd.snd.snd.snd)] })))) (fun x => M.impl_tree_add_l3_C rec_impl_tree_add) [fe h_impl_tree_add] [] (by rintro _ _ (⟨_, _, _, _, _, _, _, _⟩ | ⟨_, _, _, _, _, _, _, _, _⟩) _ _ <;> simp only [M.impl_tree_add_l3_C, nb] <;> rfl) (hE := by intro _ _ s _; rcases s with s | s <;> kernel_rfl)
def M.impl_tree_add_C {R : Type} (rec_impl_tree_add : Int → Int → List UInt8 → List UInt8 → List Row → List Row → Option (List Row)) (t' : Int) (t'1 : Int) (t'2 : List UInt8) (t'3 : List UInt8) (t'4 : List Row) (l : List Row) (k : List Row → Option R) : Option R :=
  (M.impl_tree_add_l3 rec_impl_tree_add (.inl ((t'4, (↑t'4.length : Int), 0, l, t', t'1, t'2, t'3)))).bind fun u729 =>
  sumE u729 (fun t727 =>
   (bif ((t727.snd.snd.snd.fst.length + [[D.int IntKind.i64 t727.snd.snd.snd.snd.fst, D.int IntKind.i64 t727.snd.snd.snd.snd.snd.fst, D.str t727.snd.snd.snd.snd.snd.snd.fst, D.str t727.snd.snd.snd.snd.snd.snd.snd, D.sl true 1 []]].length) * 72).ble 140737488355328 then
    (bif (t727.snd.snd.snd.fst.length + [[D.int IntKind.i64 t727.snd.snd.snd.snd.fst, D.int IntKind.i64 t727.snd.snd.snd.snd.snd.fst, D.str t727.snd.snd.snd.snd.snd.snd.fst, D.str t727.snd.snd.snd.snd.snd.snd.snd, D.sl true 1 []]].length).ble 140737488355328 then
     (k (t727.snd.snd.snd.fst ++ [[D.int IntKind.i64 t727.snd.snd.snd.snd.fst, D.int IntKind.i64 t727.snd.snd.snd.snd.snd.fst, D.str t727.snd.snd.snd.snd.snd.snd.fst, D.str t727.snd.snd.snd.snd.snd.snd.snd, D.sl true 1 []]])) else none) else none)) fun u730 =>
   letE u730 fun t728 =>
    (bif flatRows t728.snd.snd.snd.snd.snd.snd.snd.snd then
     (bif ((t728.snd.snd.snd.fst.length + [[D.int IntKind.i64 t728.snd.snd.snd.snd.fst, D.int IntKind.i64 t728.snd.snd.snd.snd.snd.fst, D.str t728.snd.snd.snd.snd.snd.snd.fst, D.str t728.snd.snd.snd.snd.snd.snd.snd.fst, D.sl true 1 t728.snd.snd.snd.snd.snd.snd.snd.snd]].length) * 72).ble 140737488355328 then
      (bif (t728.snd.snd.snd.fst.length + [[D.int IntKind.i64 t728.snd.snd.snd.snd.fst, D.int IntKind.i64 t728.snd.snd.snd.snd.snd.fst, D.str t728.snd.snd.snd.snd.snd.snd.fst, D.str t728.snd.snd.snd.snd.snd.snd.snd.fst, D.sl true 1 t728.snd.snd.snd.snd.snd.snd.snd.snd]].length).ble 140737488355328 then
       (k (t728.snd.snd.snd.fst ++ [[D.int IntKind.i64 t728.snd.snd.snd.snd.fst, D.int IntKind.i64 t728.snd.snd.snd.snd.snd.fst, D.str t728.snd.snd.snd.snd.snd.snd.fst, D.str t728.snd.snd.snd.snd.snd.snd.snd.fst, D.sl true 1 t728.snd.snd.snd.snd.snd.snd.snd.snd]])) else none) else none) else none)
def M.impl_tree_add_N : Nat → Int → Int → List UInt8 → List UInt8 → List Row → List Row → Option (List Row)
  | 0 => fun _ _ _ _ _ _ => none
  | n + 1 => fun t' t'1 t'2 t'3 t'4 l => M.impl_tree_add_C (M.impl_tree_add_N n) t' t'1 t'2 t'3 t'4 l some
def M.impl_tree_add (t' : Int) (t'1 : Int) (t'2 : List UInt8) (t'3 : List UInt8) (t'4 : List Row) (l : List Row) : Option (List Row) := lim fun n => M.impl_tree_add_N n t' t'1 t'2 t'3 t'4 l
theorem C.impl_tree_add_r1 {rec_impl_tree_add : Int → Int → List UInt8 → List UInt8 → List Row → List Row → Option (List Row)} (h_impl_tree_add : S.impl_tree_add.ok X0 fun x => rec_impl_tree_add x.1.1.1 x.1.1.2.1 x.1.1.2.2.1 x.1.1.2.2.2.1 x.1.1.2.2.2.2.1 x.1.2.1) : S.impl_tree_add.ok X0 fun x => M.impl_tree_add_C rec_impl_tree_add x.1.1.1 x.1.1.2.1 x.1.1.2.2.1 x.1.1.2.2.2.1 x.1.1.2.2.2.2.1 x.1.2.1 some := fnS (fun x => M.impl_tree_add_C rec_impl_tree_add x.1.1.1 x.1.1.2.1 x.1.1.2.2.1 x.1.1.2.2.2.1 x.1.1.2.2.2.2.1 x.1.2.1) [] [F.impl_tree_add_l3 h_impl_tree_add] (by intros; simp only [M.impl_tree_add_C, nb] <;> rfl)
theorem C.impl_tree_add_N : ∀ n, S.impl_tree_add.ok X0 fun x => M.impl_tree_add_N n x.1.1.1 x.1.1.2.1 x.1.1.2.2.1 x.1.1.2.2.2.1 x.1.1.2.2.2.2.1 x.1.2.1
  | 0 => Sig.zero
  | n + 1 => C.impl_tree_add_r1 (C.impl_tree_add_N n)
theorem C.impl_tree_add : S.impl_tree_add.ok X0 fun x => M.impl_tree_add x.1.1.1 x.1.1.2.1 x.1.1.2.2.1 x.1.1.2.2.2.1 x.1.1.2.2.2.2.1 x.1.2.1 := Sig.lim C.impl_tree_add_N
theorem M.impl_tree_add_of {n : Nat} {t' : Int} {t'1 : Int} {t'2 : List UInt8} {t'3 : List UInt8} {t'4 : List Row} {l : List Row} {r : List Row} (h : M.impl_tree_add_N n t' t'1 t'2 t'3 t'4 l = some r) : M.impl_tree_add t' t'1 t'2 t'3 t'4 l = some r :=
  Sig.lim_of C.impl_tree_add_N (by intro a b h; simp [S.impl_tree_add, sg] at h; first | exact h | simp [Prod.ext_iff, h]) (x := (((t', t'1, t'2, t'3, t'4, ()), l, ()), ())) h
def M.impl_tree_list_C {R : Type} (t' : Int) (t'1 : Int) (t'2 : List UInt8) (t'3 : List UInt8) (t'4 : List Row) (k : List Row → Option R) : Option R :=
  (M.impl_tree_add t' t'1 t'2 t'3 t'4 []).bind fun r731 => (k r731)
def M.impl_tree_list (t' : Int) (t'1 : Int) (t'2 : List UInt8) (t'3 : List UInt8) (t'4 : List Row) : Option (List Row) := M.impl_tree_list_C t' t'1 t'2 t'3 t'4 some
theorem C.impl_tree_list : S.impl_tree_list.ok X0 fun x => M.impl_tree_list x.1.1.1 x.1.1.2.1 x.1.1.2.2.1 x.1.1.2.2.2.1 x.1.1.2.2.2.2.1 := fnS (fun x => M.impl_tree_list_C x.1.1.1 x.1.1.2.1 x.1.1.2.2.1 x.1.1.2.2.2.1 x.1.1.2.2.2.2.1) [fe C.impl_tree_add] [] (by intros; simp only [M.impl_tree_list_C, nb] <;> rfl)
def M.impl_SortFuncs_l5_C {R : Type} (v14 : List Row) (v15 : Int) (s : Int × List Row × List Row) (kn : Int × List Row × List Row → Option R) (ke : Int × List Row × List Row → Option R) : Option R := match s with
  | (v16, x', x'1) =>
    bif decide (v16 < v15) then
     ((idx v14 v16).bind fun row523 =>
      ((cInt IntKind.i64 row523 0).bind fun n524 =>
       ((cInt IntKind.i64 row523 1).bind fun n525 =>
        ((cStr row523 2).bind fun s526 =>
         ((cStr row523 3).bind fun s527 =>
          ((cSl 5 row523 4).bind fun rows528 =>
           (bif n524 == 44 then
            (bif ((x'1.length + [[D.int IntKind.i64 n524, D.int IntKind.i64 n525, D.str s526, D.str s527, D.sl false 5 rows528]].length) * 72).ble 140737488355328 then
             (bif (x'1.length + [[D.int IntKind.i64 n524, D.int IntKind.i64 n525, D.str s526, D.str s527, D.sl false 5 rows528]].length).ble 140737488355328 then
              (kn ((IntKind.i64.wrap (v16 + 1), x', x'1 ++ [[D.int IntKind.i64 n524, D.int IntKind.i64 n525, D.str s526, D.str s527, D.sl false 5 rows528]]))) else none) else none) else
            (bif ((x'.length + [[D.int IntKind.i64 n524, D.int IntKind.i64 n525, D.str s526, D.str s527, D.sl false 5 rows528]].length) * 72).ble 140737488355328 then
             (bif (x'.length + [[D.int IntKind.i64 n524, D.int IntKind.i64 n525, D.str s526, D.str s527, D.sl false 5 rows528]].length).ble 140737488355328 then
              (kn ((IntKind.i64.wrap (v16 + 1), x' ++ [[D.int IntKind.i64 n524, D.int IntKind.i64 n525, D.str s526, D.str s527, D.sl false 5 rows528]], x'1))) else none) else none)))))))) else (ke ((v16, x', x'1)))
def M.impl_SortFuncs_l5_b (v14 : List Row) (v15 : Int) (s : Int × List Row × List Row) := M.impl_SortFuncs_l5_C v14 v15 s (fun s => some (Sum.inl s)) fun t => some (Sum.inr t)
def M.impl_SortFuncs_l5 (v14 : List Row) (v15 : Int) (s : Int × List Row × List Row) : Option (Int × List Row × List Row) := loopM (M.impl_SortFuncs_l5_b v14 v15) s
def F.impl_SortFuncs_l5 : LE X0 7 := le 5 (pSt [pAt 3 (pO 300000 0), pAt 4 (pO 300001 0), pAt 14 (pL false 5), pAt 15 pI, pAt 16 pI] [pAt 300000 (cA false false 0 5), pAt 300001 (cA false false 0 5)]) (fun x => (x.1.2.2.2.2.1, x.2.1, x.2.2.1)) (fun x s => (((), (), x.1.2.2.1, x.1.2.2.2.1, s.1, ()), (s.2.1, s.2.2, ()))) (fun x => .leaf (Int × List Row × List Row) (fun t => (Ex.exit 0, { tm := [(3, V.own 300000 0), (4, V.own 300001 0), (14, V.d (D.sl false 5 x.1.2.2.1)), (15, V.d (D.int IntKind.i64 x.1.2.2.2.1)), (16, V.d (D.int IntKind.i64 t.fst)), (17, V.d (D.bool false))], mem := [(300000, Cell.arr false false 0 5 t.snd.fst), (300001, Cell.arr false false 0 5 t.snd.snd)] }))) (fun x => M.impl_SortFuncs_l5_C x.1.2.2.1 x.1.2.2.2.1) [] [] (by rintro _ _ ⟨_, _, _⟩ _ _ <;> simp only [M.impl_SortFuncs_l5_C, nb] <;> rfl)
def M.impl_SortFuncs_C {R : Type} (l : List Row) (k : List Row → Option R) : Option R :=
  (M.impl_ProgramOk l).bind fun r521 =>
   (bif !r521 then (k []) else
    ((M.impl_rootOf l).bind fun r522 =>
     ((M.impl_SortFuncs_l5 (fzRows r522.snd.snd.snd.snd) ((↑(fzRows r522.snd.snd.snd.snd).length : Int)) ((0, [], []))).bind fun t529 =>
      ((M.slices_SortStableFunc t529.snd.snd).bind fun r712 =>
       (bif ((t529.snd.fst.length + r712.length) * 72).ble 140737488355328 then
        (bif (t529.snd.fst.length + r712.length).ble 140737488355328 then
         ((M.impl_tree_list 45 0 [] [] (fzRows (t529.snd.fst ++ r712))).bind fun r732 => (bif [[D.sl true 5 r732]].all pureRow then (k r732) else none)) else none) else none)))))
def M.impl_SortFuncs (l : List Row) : Option (List Row) := M.impl_SortFuncs_C l some
theorem C.impl_SortFuncs : S.impl_SortFuncs.ok X0 fun x => M.impl_SortFuncs x.1.1 := fnS (fun x => M.impl_SortFuncs_C x.1.1) [fe C.impl_ProgramOk, fe C.impl_rootOf, fe C.slices_SortStableFunc, fe C.impl_tree_list] [F.impl_SortFuncs_l5] (by intros; simp only [M.impl_SortFuncs_C, nb] <;> rfl)
def M.laws_eqIntS_l4_C {R : Type} (a : List Row) (b : List Row) (s : Int) (kn : Int → Option R) (ke : (Unit) ⊕ (Int) → Option R) : Option R := match s with
  | i =>
    bif decide (i < (↑a.length : Int)) then
     ((idx a i).bind fun row746 =>
      ((cInt IntKind.i64 row746 0).bind fun n747 =>
       ((idx b i).bind fun row748 =>
        ((cInt IntKind.i64 row748 0).bind fun n749 => (bif n747 != n749 then (ke (.inl ())) else (kn (IntKind.i64.wrap (i + 1)))))))) else (ke (.inr i))
def M.laws_eqIntS_l4_b (a : List Row) (b : List Row) (s : Int) := M.laws_eqIntS_l4_C a b s (fun s => some (Sum.inl s)) fun t => some (Sum.inr t)
def M.laws_eqIntS_l4 (a : List Row) (b : List Row) (s : Int) : Option ((Unit) ⊕ (Int)) := loopM (M.laws_eqIntS_l4_b a b) s
def F.laws_eqIntS_l4 : LE X0 37 := le 4 (pSt [pAt 0 (pL false 1), pAt 1 (pL false 1), pAt 5 pI] []) (fun x => x.1.2.2.1) (fun x s => ((x.1.1, x.1.2.1, s, ()), ())) (fun x => .sum (.leaf (Unit) (fun t => (Ex.ret, { tm := [(4, V.d (D.bool false))], mem := [] }))) (.leaf (Int) (fun t => (Ex.exit 0, { tm := [(0, V.d (D.sl false 1 x.1.1)), (1, V.d (D.sl false 1 x.1.2.1)), (5, V.d (D.int IntKind.i64 t)), (14, V.d (D.bool false))], mem := [] })))) (fun x => M.laws_eqIntS_l4_C x.1.1 x.1.2.1) [] [] (by rintro _ _ _ _ _ <;> simp only [M.laws_eqIntS_l4_C, nb] <;> rfl)
def M.laws_eqIntS_C {R : Type} (a : List Row) (b : List Row) (k : Bool → Option R) : Option R :=
  bif (↑a.length : Int) != (↑b.length : Int) then (k false) else
   ((M.laws_eqIntS_l4 a b 0).bind fun u752 =>
   sumE u752 (fun t750 => (k false)) fun u753 =>
    letE u753 fun t751 => (k true))
def M.laws_eqIntS (a : List Row) (b : List Row) : Option (Bool) := M.laws_eqIntS_C a b some
theorem C.laws_eqIntS : S.laws_eqIntS.ok X0 fun x => M.laws_eqIntS x.1.1 x.1.2.1 := fnS (fun x => M.laws_eqIntS_C x.1.1 x.1.2.1) [] [F.laws_eqIntS_l4] (by intros; simp only [M.laws_eqIntS_C, nb] <;> rfl)
def M.laws_eqNode_C {R : Type} (a : Int) (a1 : Int) (a2 : List UInt8) (a3 : List UInt8) (a4 : List Row) (b : Int) (b1 : Int) (b2 : List UInt8) (b3 : List UInt8) (b4 : List Row) (k : Bool → Option R) : Option R :=
  bif a != b then (k false) else
   (bif a1 != b1 then (k false) else
    (bif !a2 == b2 then (k false) else
     (bif !a3 == b3 then (k false) else ((M.laws_eqIntS a4 b4).bind fun r754 => (bif !r754 then (k false) else (k true))))))
def M.laws_eqNode (a : Int) (a1 : Int) (a2 : List UInt8) (a3 : List UInt8) (a4 : List Row) (b : Int) (b1 : Int) (b2 : List UInt8) (b3 : List UInt8) (b4 : List Row) : Option (Bool) := M.laws_eqNode_C a a1 a2 a3 a4 b b1 b2 b3 b4 some
theorem C.laws_eqNode : S.laws_eqNode.ok X0 fun x => M.laws_eqNode x.1.1.1 x.1.1.2.1 x.1.1.2.2.1 x.1.1.2.2.2.1 x.1.1.2.2.2.2.1 x.1.2.1.1 x.1.2.1.2.1 x.1.2.1.2.2.1 x.1.2.1.2.2.2.1 x.1.2.1.2.2.2.2.1 := fnS (fun x => M.laws_eqNode_C x.1.1.1 x.1.1.2.1 x.1.1.2.2.1 x.1.1.2.2.2.1 x.1.1.2.2.2.2.1 x.1.2.1.1 x.1.2.1.2.1 x.1.2.1.2.2.1 x.1.2.1.2.2.2.1 x.1.2.1.2.2.2.2.1) [fe C.laws_eqIntS] [] (by intros; simp only [M.laws_eqNode_C, nb] <;> rfl)
def M.laws_eqNodeS_l4_C {R : Type} (a : List Row) (b : List Row) (s : Int) (kn : Int → Option R) (ke : (Unit) ⊕ (Int) → Option R) : Option R := match s with
  | i =>
    bif decide (i < (↑a.length : Int)) then
     ((idx a i).bind fun row734 =>
      ((cInt IntKind.i64 row734 0).bind fun n735 =>
       ((cInt IntKind.i64 row734 1).bind fun n736 =>
        ((cStr row734 2).bind fun s737 =>
         ((cStr row734 3).bind fun s738 =>
          ((cSl 1 row734 4).bind fun rows739 =>
           ((idx b i).bind fun row740 =>
            ((cInt IntKind.i64 row740 0).bind fun n741 =>
             ((cInt IntKind.i64 row740 1).bind fun n742 =>
              ((cStr row740 2).bind fun s743 =>
               ((cStr row740 3).bind fun s744 =>
                ((cSl 1 row740 4).bind fun rows745 =>
                 ((M.laws_eqNode n735 n736 s737 s738 rows739 n741 n742 s743 s744 rows745).bind fun r755 => (bif !r755 then (ke (.inl ())) else (kn (IntKind.i64.wrap (i + 1))))))))))))))))) else (ke (.inr i))
def M.laws_eqNodeS_l4_b (a : List Row) (b : List Row) (s : Int) := M.laws_eqNodeS_l4_C a b s (fun s => some (Sum.inl s)) fun t => some (Sum.inr t)
def M.laws_eqNodeS_l4 (a : List Row) (b : List Row) (s : Int) : Option ((Unit) ⊕ (Int)) := loopM (M.laws_eqNodeS_l4_b a b) s
def F.laws_eqNodeS_l4 : LE X0 8 := le 4 (pSt [pAt 0 (pL false 5), pAt 1 (pL false 5), pAt 5 pI] []) (fun x => x.1.2.2.1) (fun x s => ((x.1.1, x.1.2.1, s, ()), ())) (fun x => .sum (.leaf (Unit) (fun t => (Ex.ret, { tm := [(4, V.d (D.bool false))], mem := [] }))) (.leaf (Int) (fun t => (Ex.exit 0, { tm := [(0, V.d (D.sl false 5 x.1.1)), (1, V.d (D.sl false 5 x.1.2.1)), (5, V.d (D.int IntKind.i64 t)), (14, V.d (D.bool false))], mem := [] })))) (fun x => M.laws_eqNodeS_l4_C x.1.1 x.1.2.1) [fe C.laws_eqNode] [] (by rintro _ _ _ _ _ <;> simp only [M.laws_eqNodeS_l4_C, nb] <;> rfl)
def M.laws_eqNodeS_C {R : Type} (a : List Row) (b : List Row) (k : Bool → Option R) : Option R :=
  bif (↑a.length : Int) != (↑b.length : Int) then (k false) else
   ((M.laws_eqNodeS_l4 a b 0).bind fun u758 =>
   sumE u758 (fun t756 => (k false)) fun u759 =>
    letE u759 fun t757 => (k true))
def M.laws_eqNodeS (a : List Row) (b : List Row) : Option (Bool) := M.laws_eqNodeS_C a b some
theorem C.laws_eqNodeS : S.laws_eqNodeS.ok X0 fun x => M.laws_eqNodeS x.1.1 x.1.2.1 := fnS (fun x => M.laws_eqNodeS_C x.1.1 x.1.2.1) [] [F.laws_eqNodeS_l4] (by intros; simp only [M.laws_eqNodeS_C, nb] <;> rfl)
def M.laws_markText_l4_C {R : Type} (s : Int × List UInt8) (kn : Int × List UInt8 → Option R) (ke : Int × List UInt8 → Option R) : Option R := match s with
  | (k', out') =>
    bif decide (k' > 0) then
     (bif ([UInt8.ofNat (IntKind.u8.wrap (IntKind.i64.wrap (48 + k'.tmod 10))).toNat].length + out'.length).ble 9223372036854775807 then
      (kn ((IntKind.i64.wrap (k'.tdiv 10), [UInt8.ofNat (IntKind.u8.wrap (IntKind.i64.wrap (48 + k'.tmod 10))).toNat] ++ out'))) else none) else (ke ((k', out')))
def M.laws_markText_l4_b (s : Int × List UInt8) := M.laws_markText_l4_C s (fun s => some (Sum.inl s)) fun t => some (Sum.inr t)
def M.laws_markText_l4 (s : Int × List UInt8) : Option (Int × List UInt8) := loopM (M.laws_markText_l4_b) s
def F.laws_markText_l4 : LE X0 24 := le 4 (pSt [pAt 0 pI, pAt 3 pS] []) (fun x => (x.1.1, x.1.2.1)) (fun x s => ((s.1, s.2, ()), ())) (fun x => .leaf (Int × List UInt8) (fun t => (Ex.exit 0, { tm := [(0, V.d (D.int IntKind.i64 t.fst)), (3, V.d (D.str t.snd)), (7, V.d (D.bool false))], mem := [] }))) (fun x => M.laws_markText_l4_C) [] [] (by rintro _ _ ⟨_, _⟩ _ _ <;> simp only [M.laws_markText_l4_C, nb] <;> rfl)
def M.laws_markText_C {R : Type} (k' : Int) (k : List UInt8 → Option R) : Option R :=
  bif decide (k' ≤ 0) then (k [109, 48]) else
   ((M.laws_markText_l4 ((k', []))).bind fun t767 => (bif (1 + t767.snd.length).ble 9223372036854775807 then (k ([109] ++ t767.snd)) else none))
def M.laws_markText (k' : Int) : Option (List UInt8) := M.laws_markText_C k' some
theorem C.laws_markText : S.laws_markText.ok X0 fun x => M.laws_markText x.1.1 := fnS (fun x => M.laws_markText_C x.1.1) [] [F.laws_markText_l4] (by intros; simp only [M.laws_markText_C, nb] <;> rfl)
def M.laws_markIntS_l2_C {R : Type} (s : Int × Int × List Row) (kn : Int × Int × List Row → Option R) (ke : Int × Int × List Row → Option R) : Option R := match s with
  | (k', i, v) =>
    bif decide (i < (↑v.length : Int)) then
     ((idx v i).bind fun row777 =>
      (v[i.toNat]?.bind fun row778 =>
       (kn ((IntKind.i64.wrap (k' + 1), IntKind.i64.wrap (i + 1), v.set i.toNat (splice row778 0 [D.int IntKind.i64 k'])))))) else (ke ((k', i, v)))
def M.laws_markIntS_l2_b (s : Int × Int × List Row) := M.laws_markIntS_l2_C s (fun s => some (Sum.inl s)) fun t => some (Sum.inr t)
def M.laws_markIntS_l2 (s : Int × Int × List Row) : Option (Int × Int × List Row) := loopM (M.laws_markIntS_l2_b) s
def F.laws_markIntS_l2 : LE X0 25 := le 2 (pSt [pAt 0 (pO 100000 0), pAt 1 pI, pAt 5 pI] [pAt 100000 (cA false true 0 1)]) (fun x => (x.1.2.1, x.1.2.2.1, x.2.1)) (fun x s => (((), s.1, s.2.1, ()), (s.2.2, ()))) (fun x => .leaf (Int × Int × List Row) (fun t => (Ex.exit 0, { tm := [(0, V.own 100000 0), (1, V.d (D.int IntKind.i64 t.fst)), (5, V.d (D.int IntKind.i64 t.snd.fst)), (9, V.d (D.bool false))], mem := [(100000, Cell.arr false true 0 1 t.snd.snd)] }))) (fun x => M.laws_markIntS_l2_C) [] [] (by rintro _ _ ⟨_, _, _⟩ _ _ <;> simp only [M.laws_markIntS_l2_C, nb] <;> rfl)
def M.laws_markIntS_C {R : Type} (k' : Int) (c : List Row) (k : Int × List Row → Option R) : Option R :=
  (M.laws_markIntS_l2 ((k', 0, c))).bind fun t779 => (k ((t779.fst, t779.snd.snd)))
def M.laws_markIntS (k' : Int) (c : List Row) : Option (Int × List Row) := M.laws_markIntS_C k' c some
theorem C.laws_markIntS : S.laws_markIntS.ok X0 fun x => M.laws_markIntS x.1.2.1 x.2.1 := fnS (fun x => M.laws_markIntS_C x.1.2.1 x.2.1) [] [F.laws_markIntS_l2] (by intros; simp only [M.laws_markIntS_C, nb] <;> rfl)
def M.laws_markNodeS_l2_C {R : Type} (s : Int × Int × List Row) (kn : Int × Int × List Row → Option R) (ke : Int × Int × List Row → Option R) : Option R := match s with
  | (k', i, v) =>
    bif decide (i < (↑v.length : Int)) then
     ((idx v i).bind fun row763 =>
      (v[i.toNat]?.bind fun row764 =>
       ((idx (v.set i.toNat (splice row764 0 [D.int IntKind.i64 k'])) i).bind fun row765 =>
        (((v.set i.toNat (splice row764 0 [D.int IntKind.i64 k']))[i.toNat]?).bind fun row766 =>
         ((M.laws_markText (IntKind.i64.wrap (IntKind.i64.wrap (k' + 1) + 1))).bind fun r768 =>
          ((idx ((v.set i.toNat (splice row764 0 [D.int IntKind.i64 k'])).set i.toNat (splice row766 1 [D.int IntKind.i64 (IntKind.i64.wrap (k' + 1))])) i).bind fun row769 =>
           ((((v.set i.toNat (splice row764 0 [D.int IntKind.i64 k'])).set i.toNat (splice row766 1 [D.int IntKind.i64 (IntKind.i64.wrap (k' + 1))]))[i.toNat]?).bind fun row770 =>
            ((M.laws_markText (IntKind.i64.wrap (IntKind.i64.wrap (IntKind.i64.wrap (k' + 1) + 1) + 1))).bind fun r771 =>
             ((idx (((v.set i.toNat (splice row764 0 [D.int IntKind.i64 k'])).set i.toNat (splice row766 1 [D.int IntKind.i64 (IntKind.i64.wrap (k' + 1))])).set i.toNat (splice row770 2 [D.str r768])) i).bind fun row772 =>
              (((((v.set i.toNat (splice row764 0 [D.int IntKind.i64 k'])).set i.toNat (splice row766 1 [D.int IntKind.i64 (IntKind.i64.wrap (k' + 1))])).set i.toNat (splice row770 2 [D.str r768]))[i.toNat]?).bind fun row773 =>
               ((idx ((((v.set i.toNat (splice row764 0 [D.int IntKind.i64 k'])).set i.toNat (splice row766 1 [D.int IntKind.i64 (IntKind.i64.wrap (k' + 1))])).set i.toNat (splice row770 2 [D.str r768])).set i.toNat (splice row773 3 [D.str r771])) i).bind fun row774 =>
                ((((((v.set i.toNat (splice row764 0 [D.int IntKind.i64 k'])).set i.toNat (splice row766 1 [D.int IntKind.i64 (IntKind.i64.wrap (k' + 1))])).set i.toNat (splice row770 2 [D.str r768])).set i.toNat (splice row773 3 [D.str r771]))[i.toNat]?).bind fun row775 =>
                 ((cOwn 1 row775 4).bind fun rows776 =>
                  (bif flatRows rows776 then
                   ((M.laws_markIntS (IntKind.i64.wrap (IntKind.i64.wrap (IntKind.i64.wrap (IntKind.i64.wrap (k' + 1) + 1) + 1) + 1)) rows776).bind fun r780 =>
                    (bif Nat.beq 1 1 && (true == true && (flatRows r780.snd && pureRows r780.snd)) then
                     (kn ((r780.fst, IntKind.i64.wrap (i + 1), ((((v.set i.toNat (splice row764 0 [D.int IntKind.i64 k'])).set i.toNat (splice row766 1 [D.int IntKind.i64 (IntKind.i64.wrap (k' + 1))])).set i.toNat (splice row770 2 [D.str r768])).set i.toNat (splice row773 3 [D.str r771])).set i.toNat (splice row775 4 [D.sl true 1 r780.snd])))) else none)) else none)))))))))))))) else (ke ((k', i, v)))
def M.laws_markNodeS_l2_b (s : Int × Int × List Row) := M.laws_markNodeS_l2_C s (fun s => some (Sum.inl s)) fun t => some (Sum.inr t)
def M.laws_markNodeS_l2 (s : Int × Int × List Row) : Option (Int × Int × List Row) := loopM (M.laws_markNodeS_l2_b) s
def F.laws_markNodeS_l2 : LE X0 9 := le 2 (pSt [pAt 0 (pO 100000 0), pAt 1 pI, pAt 5 pI] [pAt 100000 (cA false false 0 5)]) (fun x => (x.1.2.1, x.1.2.2.1, x.2.1)) (fun x s => (((), s.1, s.2.1, ()), (s.2.2, ()))) (fun x => .leaf (Int × Int × List Row) (fun t => (Ex.exit 0, { tm := [(0, V.own 100000 0), (1, V.d (D.int IntKind.i64 t.fst)), (5, V.d (D.int IntKind.i64 t.snd.fst)), (9, V.d (D.bool false))], mem := [(100000, Cell.arr false false 0 5 t.snd.snd)] }))) (fun x => M.laws_markNodeS_l2_C) [fe C.laws_markText, fe C.laws_markIntS] [] (by rintro _ _ ⟨_, _, _⟩ _ _ <;> simp only [M.laws_markNodeS_l2_C, nb] <;> rfl)
def M.laws_markNodeS_C {R : Type} (k' : Int) (c : List Row) (k : Int × List Row → Option R) : Option R :=
  (M.laws_markNodeS_l2 ((k', 0, c))).bind fun t781 => (k ((t781.fst, t781.snd.snd)))
def M.laws_markNodeS (k' : Int) (c : List Row) : Option (Int × List Row) := M.laws_markNodeS_C k' c some
theorem C.laws_markNodeS : S.laws_markNodeS.ok X0 fun x => M.laws_markNodeS x.1.2.1 x.2.1 := fnS (fun x => M.laws_markNodeS_C x.1.2.1 x.2.1) [] [F.laws_markNodeS_l2] (by intros; simp only [M.laws_markNodeS_C, nb] <;> rfl)
def M.laws_heldIntS_l2_C {R : Type} (a : List Row) (s : Int × Int) (kn : Int × Int → Option R) (ke : (Unit) ⊕ (Int × Int) → Option R) : Option R := match s with
  | (k', i) =>
    bif decide (i < (↑a.length : Int)) then
     ((idx a i).bind fun row797 =>
      ((cInt IntKind.i64 row797 0).bind fun n798 =>
       (bif n798 != k' then (ke (.inl ())) else (kn ((IntKind.i64.wrap (k' + 1), IntKind.i64.wrap (i + 1))))))) else (ke (.inr ((k', i))))
def M.laws_heldIntS_l2_b (a : List Row) (s : Int × Int) := M.laws_heldIntS_l2_C a s (fun s => some (Sum.inl s)) fun t => some (Sum.inr t)
def M.laws_heldIntS_l2 (a : List Row) (s : Int × Int) : Option ((Unit) ⊕ (Int × Int)) := loopM (M.laws_heldIntS_l2_b a) s
def F.laws_heldIntS_l2 : LE X0 26 := le 2 (pSt [pAt 0 (pL false 1), pAt 1 pI, pAt 5 pI] []) (fun x => (x.1.2.1, x.1.2.2.1)) (fun x s => ((x.1.1, s.1, s.2, ()), ())) (fun x => .sum (.leaf (Unit) (fun t => (Ex.ret, { tm := [(4, V.d (D.int IntKind.i64 (-1)))], mem := [] }))) (.leaf (Int × Int) (fun t => (Ex.exit 0, { tm := [(0, V.d (D.sl false 1 x.1.1)), (1, V.d (D.int IntKind.i64 t.fst)), (5, V.d (D.int IntKind.i64 t.snd)), (9, V.d (D.bool false))], mem := [] })))) (fun x => M.laws_heldIntS_l2_C x.1.1) [] [] (by rintro _ _ ⟨_, _⟩ _ _ <;> simp only [M.laws_heldIntS_l2_C, nb] <;> rfl)
def M.laws_heldIntS_C {R : Type} (a : List Row) (k' : Int) (k : Int → Option R) : Option R :=
  (M.laws_heldIntS_l2 a ((k', 0))).bind fun u801 =>
  sumE u801 (fun t799 => (k (-1))) fun u802 =>
   letE u802 fun t800 => (k t800.fst)
def M.laws_heldIntS (a : List Row) (k' : Int) : Option (Int) := M.laws_heldIntS_C a k' some
theorem C.laws_heldIntS : S.laws_heldIntS.ok X0 fun x => M.laws_heldIntS x.1.1 x.1.2.1 := fnS (fun x => M.laws_heldIntS_C x.1.1 x.1.2.1) [] [F.laws_heldIntS_l2] (by intros; simp only [M.laws_heldIntS_C, nb] <;> rfl)
def M.laws_heldNodeS_l2_C {R : Type} (a : List Row) (s : Int × Int) (kn : Int × Int → Option R) (ke : (Unit) ⊕ (Int × Int) → Option R) : Option R := match s with
  | (k', i) =>
    bif decide (i < (↑a.length : Int)) then
     ((idx a i).bind fun row785 =>
      ((cInt IntKind.i64 row785 0).bind fun n786 =>
       (bif n786 != k' then (ke (.inl ())) else
        ((idx a i).bind fun row787 =>
         ((cInt IntKind.i64 row787 1).bind fun n788 =>
          (bif n788 != IntKind.i64.wrap (k' + 1) then (ke (.inl ())) else
           ((idx a i).bind fun row789 =>
            ((cStr row789 2).bind fun s790 =>
             ((M.laws_markText (IntKind.i64.wrap (IntKind.i64.wrap (k' + 1) + 1))).bind fun r791 =>
              (bif !s790 == r791 then (ke (.inl ())) else
               ((idx a i).bind fun row792 =>
                ((cStr row792 3).bind fun s793 =>
                 ((M.laws_markText (IntKind.i64.wrap (IntKind.i64.wrap (IntKind.i64.wrap (k' + 1) + 1) + 1))).bind fun r794 =>
                  (bif !s793 == r794 then (ke (.inl ())) else
                   ((idx a i).bind fun row795 =>
                    ((cSl 1 row795 4).bind fun rows796 =>
                     ((M.laws_heldIntS rows796 (IntKind.i64.wrap (IntKind.i64.wrap (IntKind.i64.wrap (IntKind.i64.wrap (k' + 1) + 1) + 1) + 1))).bind fun r803 => (bif decide (r803 < 0) then (ke (.inl ())) else (kn ((r803, IntKind.i64.wrap (i + 1)))))))))))))))))))))) else (ke (.inr ((k', i))))
def M.laws_heldNodeS_l2_b (a : List Row) (s : Int × Int) := M.laws_heldNodeS_l2_C a s (fun s => some (Sum.inl s)) fun t => some (Sum.inr t)
def M.laws_heldNodeS_l2 (a : List Row) (s : Int × Int) : Option ((Unit) ⊕ (Int × Int)) := loopM (M.laws_heldNodeS_l2_b a) s
def F.laws_heldNodeS_l2 : LE X0 10 := le 2 (pSt [pAt 0 (pL false 5), pAt 1 pI, pAt 5 pI] []) (fun x => (x.1.2.1, x.1.2.2.1)) (fun x s => ((x.1.1, s.1, s.2, ()), ())) (fun x => .sum (.leaf (Unit) (fun t => (Ex.ret, { tm := [(4, V.d (D.int IntKind.i64 (-1)))], mem := [] }))) (.leaf (Int × Int) (fun t => (Ex.exit 0, { tm := [(0, V.d (D.sl false 5 x.1.1)), (1, V.d (D.int IntKind.i64 t.fst)), (5, V.d (D.int IntKind.i64 t.snd)), (9, V.d (D.bool false))], mem := [] })))) (fun x => M.laws_heldNodeS_l2_C x.1.1) [fe C.laws_markText, fe C.laws_heldIntS] [] (by rintro _ _ ⟨_, _⟩ _ _ <;> simp only [M.laws_heldNodeS_l2_C, nb] <;> rfl)
def M.laws_heldNodeS_C {R : Type} (a : List Row) (k' : Int) (k : Int → Option R) : Option R :=
  (M.laws_heldNodeS_l2 a ((k', 0))).bind fun u806 =>
  sumE u806 (fun t804 => (k (-1))) fun u807 =>
   letE u807 fun t805 => (k t805.fst)
def M.laws_heldNodeS (a : List Row) (k' : Int) : Option (Int) := M.laws_heldNodeS_C a k' some
theorem C.laws_heldNodeS : S.laws_heldNodeS.ok X0 fun x => M.laws_heldNodeS x.1.1 x.1.2.1 := fnS (fun x => M.laws_heldNodeS_C x.1.1 x.1.2.1) [] [F.laws_heldNodeS_l2] (by intros; simp only [M.laws_heldNodeS_C, nb] <;> rfl)
def M.laws_FnExactSortFuncs_C {R : Type} (aL : List Row) (k : Bool → Option R) : Option R :=
  (M.laws_szNodeS aL 1048576).bind fun r12 =>
   (bif decide (r12 < 0) then (k true) else
    ((M.laws_toNodeS aL).bind fun r29 =>
     ((M.spec_SortFuncs (fzRows r29)).bind fun r337 =>
      (bif [[D.sl true 5 r337]].all pureRow then
       ((M.laws_toNodeS aL).bind fun r338 =>
        ((M.impl_SortFuncs (fzRows r338)).bind fun r733 =>
         (bif [[D.sl true 5 r733]].all pureRow then
          ((M.laws_eqNodeS (fzRows r733) (fzRows r337)).bind fun r760 =>
           (bif !r760 then (k false) else
            ((M.laws_toNodeS aL).bind fun r761 =>
             ((M.laws_eqNodeS (fzRows r338) (fzRows r761)).bind fun r762 =>
              (bif !r762 then (k false) else
               ((M.laws_markNodeS 1 r338).bind fun r782 =>
                (bif decide (r782.fst < 0) then (k false) else
                 ((M.laws_eqNodeS (fzRows r733) (fzRows r337)).bind fun r783 =>
                  (bif !r783 then (k false) else
                   ((M.laws_markNodeS 1 r733).bind fun r784 =>
                    ((M.laws_heldNodeS (fzRows r784.snd) 1).bind fun r808 =>
                     (bif decide (r808 < 0) then (k false) else
                      (bif r808 != r784.fst then (k false) else
                       ((M.laws_toNodeS aL).bind fun r809 =>
                        ((M.impl_SortFuncs (fzRows r809)).bind fun r810 =>
                         (bif [[D.sl true 5 r810]].all pureRow then
                          ((M.laws_eqNodeS (fzRows r810) (fzRows r337)).bind fun r811 =>
                           (bif !r811 then (k false) else
                            ((M.laws_heldNodeS (fzRows r784.snd) 1).bind fun r812 =>
                             (bif decide (r812 < 0) then (k false) else (bif r812 != r784.fst then (k false) else (k true)))))) else none)))))))))))))))) else none))) else none))))
def M.laws_FnExactSortFuncs (aL : List Row) : Option (Bool) := M.laws_FnExactSortFuncs_C aL some
theorem C.laws_FnExactSortFuncs : S.laws_FnExactSortFuncs.ok X0 fun x => M.laws_FnExactSortFuncs x.1.1 := fnS (fun x => M.laws_FnExactSortFuncs_C x.1.1) [fe C.laws_szNodeS, fe C.laws_toNodeS, fe C.spec_SortFuncs, fe C.impl_SortFuncs, fe C.laws_eqNodeS, fe C.laws_markNodeS, fe C.laws_heldNodeS] [] (by intros; simp only [M.laws_FnExactSortFuncs_C, nb] <;> rfl)
end
end Go.Proofs.YtpcdaeebbpedoaaGreatDoor
