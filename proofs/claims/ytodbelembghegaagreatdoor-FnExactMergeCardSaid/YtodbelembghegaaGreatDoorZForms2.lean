/-
  The plain forms of the functions, and that they are what the functions come to (2).
-/
import Derived.Test.YtodbelembghegaaGreatDoorZForms
namespace Go.Proofs.YtodbelembghegaaGreatDoor
open Go Go.Vm
set_option linter.unusedVariables false
set_option linter.unusedSimpArgs false
noncomputable section
/-! laws_FnExactMerge -/
def M.laws_FnExactMerge_C {R : Type} (aA : List Row) (aB : List Row) (k : Bool → Option R) : Option R :=
  (M.laws_szNodeS aA 1048576).bind fun r12 =>
   (bif decide (r12 < 0) then (k true) else
    ((M.laws_szNodeS aB r12).bind fun r13 =>
     (bif decide (r13 < 0) then (k true) else
      ((M.laws_toNodeS aA).bind fun r30 =>
       ((M.laws_toNodeS aB).bind fun r31 =>
        ((M.spec_Merge (fzRows r30) (fzRows r31)).bind fun r319 =>
         (bif [[D.sl true 5 r319.fst], [D.bool r319.snd]].all pureRow then
          ((M.laws_toNodeS aA).bind fun r320 =>
           ((M.laws_toNodeS aB).bind fun r321 =>
            ((M.impl_Merge (fzRows r320) (fzRows r321)).bind fun r537 =>
             (bif [[D.sl true 5 r537.fst], [D.bool r537.snd]].all pureRow then
              ((M.laws_eqNodeS (fzRows r537.fst) (fzRows r319.fst)).bind fun r564 =>
               (bif !r564 then (k false) else
                (bif !r537.snd == r319.snd then (k false) else
                 ((M.laws_toNodeS aA).bind fun r565 =>
                  ((M.laws_eqNodeS (fzRows r320) (fzRows r565)).bind fun r566 =>
                   (bif !r566 then (k false) else
                    ((M.laws_toNodeS aB).bind fun r567 =>
                     ((M.laws_eqNodeS (fzRows r321) (fzRows r567)).bind fun r568 =>
                      (bif !r568 then (k false) else
                       ((M.laws_markNodeS 1 r320).bind fun r588 =>
                        ((M.laws_markNodeS r588.fst r321).bind fun r589 =>
                         (bif decide (r589.fst < 0) then (k false) else
                          ((M.laws_eqNodeS (fzRows r537.fst) (fzRows r319.fst)).bind fun r590 =>
                           (bif !r590 then (k false) else
                            (bif !r537.snd == r319.snd then (k false) else
                             ((M.laws_markNodeS 1 r537.fst).bind fun r591 =>
                              ((M.laws_heldNodeS (fzRows r591.snd) 1).bind fun r615 =>
                               (bif decide (r615 < 0) then (k false) else
                                (bif r615 != r591.fst then (k false) else
                                 ((M.laws_toNodeS aA).bind fun r616 =>
                                  ((M.laws_toNodeS aB).bind fun r617 =>
                                   ((M.impl_Merge (fzRows r616) (fzRows r617)).bind fun r618 =>
                                    (bif [[D.sl true 5 r618.fst], [D.bool r618.snd]].all pureRow then
                                     ((M.laws_eqNodeS (fzRows r618.fst) (fzRows r319.fst)).bind fun r619 =>
                                      (bif !r619 then (k false) else
                                       (bif !r618.snd == r319.snd then (k false) else
                                        ((M.laws_heldNodeS (fzRows r591.snd) 1).bind fun r620 =>
                                         (bif decide (r620 < 0) then (k false) else (bif r620 != r591.fst then (k false) else (k true))))))) else none))))))))))))))))))))))) else none)))) else none)))))))
def M.laws_FnExactMerge (aA : List Row) (aB : List Row) : Option (Bool) := M.laws_FnExactMerge_C aA aB some
theorem C.laws_FnExactMerge : S.laws_FnExactMerge.ok X0 fun x => M.laws_FnExactMerge x.1.1 x.1.2.1 := fnS (fun x => M.laws_FnExactMerge_C x.1.1 x.1.2.1) [fe C.laws_szNodeS, fe C.laws_toNodeS, fe C.spec_Merge, fe C.impl_Merge, fe C.laws_eqNodeS, fe C.laws_markNodeS, fe C.laws_heldNodeS] [] (by intros; simp only [M.laws_FnExactMerge_C, nb] <;> rfl)

abbrev S.spec_l6Copy : Sig := sg 49 [pL false 5] [] (ρ := List Row) fun r => ([[D.sl true 5 r]], [])
abbrev S.spec_ExprOk : Sig := sg 47 [pL false 5] [] (ρ := Bool) fun r => ([[D.bool r]], [])
abbrev S.spec_AssignsTo : Sig := sg 48 [pL false 5, pS] [] (ρ := Bool) fun r => ([[D.bool r]], [])
abbrev S.spec_l46Put : Sig := sg 50 [pL false 5, pI, pS, pL false 5] [] (ρ := List Row) fun r => ([[D.sl true 5 r]], [])
abbrev S.spec_Subst : Sig := sg 16 [pL false 5, pS, pL false 5] [] (ρ := List Row × Bool) fun r => ([[D.sl true 5 r.fst], [D.bool r.snd]], [])
abbrev S.impl_ExprOk : Sig := sg 51 [pL false 5] [] (ρ := Bool) fun r => ([[D.bool r]], [])
abbrev S.slices_Clone : Sig := sg 94 [pL false 1] [] (ρ := List Row) fun r => ([[D.sl true 1 r]], [])
abbrev S.impl_copyNodes : Sig := sg 53 [pL false 5] [] (ρ := List Row) fun r => ([[D.sl true 5 r]], [])
abbrev S.impl_AssignsTo : Sig := sg 52 [pL false 5, pS] [] (ρ := Bool) fun r => ([[D.bool r]], [])
abbrev S.impl_Subst_c1 : Sig := sg 55 [pI, pAgg [pI, pI, pS, pS, pL false 5], pP 100000 0, pP 100001 0] [cB 9 [pS], cB 24 [pL false 5]] (ρ := List Row × List UInt8 × List Row) fun r => ([[D.sl true 5 r.fst]], [Cell.box 9 [V.d (D.str r.snd.fst)], Cell.box 24 [V.d (D.sl false 5 r.snd.snd)]])
abbrev S.impl_edited : Sig := sg 95 [pL false 5, pI, pClo 55 [] [pP 100000 0, pP 100001 0]] [cB 9 [pS], cB 24 [pL false 5]] (ρ := List Row × List UInt8 × List Row) fun r => ([[D.sl false 5 r.fst]], [Cell.box 9 [V.d (D.str r.snd.fst)], Cell.box 24 [V.d (D.sl false 5 r.snd.snd)]])
abbrev S.impl_edit : Sig := sg 54 [pL false 5, pI, pClo 55 [] [pP 100000 0, pP 100001 0]] [cB 9 [pS], cB 24 [pL false 5]] (ρ := List Row × Bool × List UInt8 × List Row) fun r => ([[D.sl true 5 r.fst], [D.bool r.snd.fst]], [Cell.box 9 [V.d (D.str r.snd.snd.fst)], Cell.box 24 [V.d (D.sl false 5 r.snd.snd.snd)]])
abbrev S.impl_Subst : Sig := sg 17 [pL false 5, pS, pL false 5] [] (ρ := List Row × Bool) fun r => ([[D.sl true 5 r.fst], [D.bool r.snd]], [])
abbrev S.laws_FnExactSubst : Sig := sg 4 [pL false 5, pS, pL false 5] [] (ρ := Bool) fun r => ([[D.bool r]], [])
/-! spec_l6Copy -/
def M.spec_l6Copy_C {R : Type} (l : List Row) (k : List Row → Option R) : Option R :=
  (M.spec_l6Shift l 0).bind fun r626 => (k r626)
def M.spec_l6Copy (l : List Row) : Option (List Row) := M.spec_l6Copy_C l some
theorem C.spec_l6Copy : S.spec_l6Copy.ok X0 fun x => M.spec_l6Copy x.1.1 := fnS (fun x => M.spec_l6Copy_C x.1.1) [fe C.spec_l6Shift] [] (by intros; simp only [M.spec_l6Copy_C, nb] <;> rfl)

/-! spec_ExprOk -/
def M.spec_ExprOk_C {R : Type} (l : List Row) (k : Bool → Option R) : Option R :=
  (M.spec_TreeOk l).bind fun r628 =>
   (bif r628 then
    ((idx l (IntKind.i64.wrap ((↑l.length : Int) - 1))).bind fun row629 =>
     ((cInt IntKind.i64 row629 0).bind fun n630 => ((M.spec_IsExpr n630).bind fun r631 => (k r631)))) else (k false))
def M.spec_ExprOk (l : List Row) : Option (Bool) := M.spec_ExprOk_C l some
theorem C.spec_ExprOk : S.spec_ExprOk.ok X0 fun x => M.spec_ExprOk x.1.1 := fnS (fun x => M.spec_ExprOk_C x.1.1) [fe C.spec_TreeOk, fe C.spec_IsExpr] [] (by intros; simp only [M.spec_ExprOk_C, nb] <;> rfl)

/-! spec_AssignsTo -/
def M.spec_AssignsTo_l2_C {R : Type} (l : List Row) (name : List UInt8) (s : Int) (kn : Int → Option R) (ke : (Unit) ⊕ (Int) → Option R) : Option R := match s with
  | i =>
    bif decide (i < (↑l.length : Int)) then
     ((idx l i).bind fun row634 =>
      ((cInt IntKind.i64 row634 0).bind fun n635 =>
       ((cInt IntKind.i64 row634 1).bind fun n636 =>
        ((cStr row634 2).bind fun s637 =>
         ((cStr row634 3).bind fun s638 =>
          ((cSl 1 row634 4).bind fun rows639 =>
           (bif n635 == 32 then
            (bif s637 == name then (ke (.inl ())) else
             (bif n635 == 15 then
              (bif decide ((↑rows639.length : Int) > 0) then
               ((idx rows639 0).bind fun row640 =>
                ((cInt IntKind.i64 row640 0).bind fun n641 =>
                 ((M.spec_l1In n641 0 (IntKind.i64.wrap ((↑l.length : Int) - 1))).bind fun r642 =>
                  (bif r642 then
                   ((idx rows639 0).bind fun row643 =>
                    ((cInt IntKind.i64 row643 0).bind fun n644 =>
                     ((idx l n644).bind fun row645 =>
                      ((cInt IntKind.i64 row645 0).bind fun n646 =>
                       ((cInt IntKind.i64 row645 1).bind fun n647 =>
                        ((cStr row645 2).bind fun s648 =>
                         ((cStr row645 3).bind fun s649 =>
                          ((cSl 1 row645 4).bind fun rows650 =>
                           (bif n646 == 1 then (bif s648 == name then (ke (.inl ())) else (kn (IntKind.i64.wrap (i + 1)))) else (kn (IntKind.i64.wrap (i + 1)))))))))))) else (kn (IntKind.i64.wrap (i + 1))))))) else (kn (IntKind.i64.wrap (i + 1)))) else
              (bif n635 == 9 then
               (bif decide ((↑rows639.length : Int) > 0) then
                ((idx rows639 0).bind fun row651 =>
                 ((cInt IntKind.i64 row651 0).bind fun n652 =>
                  ((M.spec_l1In n652 0 (IntKind.i64.wrap ((↑l.length : Int) - 1))).bind fun r653 =>
                   (bif r653 then
                    ((idx rows639 0).bind fun row654 =>
                     ((cInt IntKind.i64 row654 0).bind fun n655 =>
                      ((idx l n655).bind fun row656 =>
                       ((cInt IntKind.i64 row656 0).bind fun n657 =>
                        ((cInt IntKind.i64 row656 1).bind fun n658 =>
                         ((cStr row656 2).bind fun s659 =>
                          ((cStr row656 3).bind fun s660 =>
                           ((cSl 1 row656 4).bind fun rows661 =>
                            (bif n657 == 1 then (bif s659 == name then (ke (.inl ())) else (kn (IntKind.i64.wrap (i + 1)))) else (kn (IntKind.i64.wrap (i + 1)))))))))))) else (kn (IntKind.i64.wrap (i + 1))))))) else (kn (IntKind.i64.wrap (i + 1)))) else
               (bif n635 == 10 then
                (bif decide ((↑rows639.length : Int) > 0) then
                 ((idx rows639 0).bind fun row662 =>
                  ((cInt IntKind.i64 row662 0).bind fun n663 =>
                   ((M.spec_l1In n663 0 (IntKind.i64.wrap ((↑l.length : Int) - 1))).bind fun r664 =>
                    (bif r664 then
                     ((idx rows639 0).bind fun row665 =>
                      ((cInt IntKind.i64 row665 0).bind fun n666 =>
                       ((idx l n666).bind fun row667 =>
                        ((cInt IntKind.i64 row667 0).bind fun n668 =>
                         ((cInt IntKind.i64 row667 1).bind fun n669 =>
                          ((cStr row667 2).bind fun s670 =>
                           ((cStr row667 3).bind fun s671 =>
                            ((cSl 1 row667 4).bind fun rows672 =>
                             (bif n668 == 1 then (bif s670 == name then (ke (.inl ())) else (kn (IntKind.i64.wrap (i + 1)))) else (kn (IntKind.i64.wrap (i + 1)))))))))))) else (kn (IntKind.i64.wrap (i + 1))))))) else (kn (IntKind.i64.wrap (i + 1)))) else (kn (IntKind.i64.wrap (i + 1))))))) else
            (bif n635 == 15 then
             (bif decide ((↑rows639.length : Int) > 0) then
              ((idx rows639 0).bind fun row673 =>
               ((cInt IntKind.i64 row673 0).bind fun n674 =>
                ((M.spec_l1In n674 0 (IntKind.i64.wrap ((↑l.length : Int) - 1))).bind fun r675 =>
                 (bif r675 then
                  ((idx rows639 0).bind fun row676 =>
                   ((cInt IntKind.i64 row676 0).bind fun n677 =>
                    ((idx l n677).bind fun row678 =>
                     ((cInt IntKind.i64 row678 0).bind fun n679 =>
                      ((cInt IntKind.i64 row678 1).bind fun n680 =>
                       ((cStr row678 2).bind fun s681 =>
                        ((cStr row678 3).bind fun s682 =>
                         ((cSl 1 row678 4).bind fun rows683 =>
                          (bif n679 == 1 then (bif s681 == name then (ke (.inl ())) else (kn (IntKind.i64.wrap (i + 1)))) else (kn (IntKind.i64.wrap (i + 1)))))))))))) else (kn (IntKind.i64.wrap (i + 1))))))) else (kn (IntKind.i64.wrap (i + 1)))) else
             (bif n635 == 9 then
              (bif decide ((↑rows639.length : Int) > 0) then
               ((idx rows639 0).bind fun row684 =>
                ((cInt IntKind.i64 row684 0).bind fun n685 =>
                 ((M.spec_l1In n685 0 (IntKind.i64.wrap ((↑l.length : Int) - 1))).bind fun r686 =>
                  (bif r686 then
                   ((idx rows639 0).bind fun row687 =>
                    ((cInt IntKind.i64 row687 0).bind fun n688 =>
                     ((idx l n688).bind fun row689 =>
                      ((cInt IntKind.i64 row689 0).bind fun n690 =>
                       ((cInt IntKind.i64 row689 1).bind fun n691 =>
                        ((cStr row689 2).bind fun s692 =>
                         ((cStr row689 3).bind fun s693 =>
                          ((cSl 1 row689 4).bind fun rows694 =>
                           (bif n690 == 1 then (bif s692 == name then (ke (.inl ())) else (kn (IntKind.i64.wrap (i + 1)))) else (kn (IntKind.i64.wrap (i + 1)))))))))))) else (kn (IntKind.i64.wrap (i + 1))))))) else (kn (IntKind.i64.wrap (i + 1)))) else
              (bif n635 == 10 then
               (bif decide ((↑rows639.length : Int) > 0) then
                ((idx rows639 0).bind fun row695 =>
                 ((cInt IntKind.i64 row695 0).bind fun n696 =>
                  ((M.spec_l1In n696 0 (IntKind.i64.wrap ((↑l.length : Int) - 1))).bind fun r697 =>
                   (bif r697 then
                    ((idx rows639 0).bind fun row698 =>
                     ((cInt IntKind.i64 row698 0).bind fun n699 =>
                      ((idx l n699).bind fun row700 =>
                       ((cInt IntKind.i64 row700 0).bind fun n701 =>
                        ((cInt IntKind.i64 row700 1).bind fun n702 =>
                         ((cStr row700 2).bind fun s703 =>
                          ((cStr row700 3).bind fun s704 =>
                           ((cSl 1 row700 4).bind fun rows705 =>
                            (bif n701 == 1 then (bif s703 == name then (ke (.inl ())) else (kn (IntKind.i64.wrap (i + 1)))) else (kn (IntKind.i64.wrap (i + 1)))))))))))) else (kn (IntKind.i64.wrap (i + 1))))))) else (kn (IntKind.i64.wrap (i + 1)))) else (kn (IntKind.i64.wrap (i + 1))))))))))))) else (ke (.inr i))
def M.spec_AssignsTo_l2_b (l : List Row) (name : List UInt8) (s : Int) := M.spec_AssignsTo_l2_C l name s (fun s => some (Sum.inl s)) fun t => some (Sum.inr t)
def M.spec_AssignsTo_l2 (l : List Row) (name : List UInt8) (s : Int) : Option ((Unit) ⊕ (Int)) := loopM (M.spec_AssignsTo_l2_b l name) s
def F.spec_AssignsTo_l2 : LE X0 48 := le 2 (pSt [pAt 0 (pL false 5), pAt 1 pS, pAt 5 pI] []) (fun x => x.1.2.2.1) (fun x s => ((x.1.1, x.1.2.1, s, ()), ())) (fun x => .sum (.leaf (Unit) (fun t => (Ex.ret, { tm := [(4, V.d (D.bool true))], mem := [] }))) (.leaf (Int) (fun t => (Ex.exit 0, { tm := [(0, V.d (D.sl false 5 x.1.1)), (1, V.d (D.str x.1.2.1)), (5, V.d (D.int IntKind.i64 t)), (11, V.d (D.bool false))], mem := [] })))) (fun x => M.spec_AssignsTo_l2_C x.1.1 x.1.2.1) [fe C.spec_l1In] [] (by rintro _ _ _ _ _ <;> simp only [M.spec_AssignsTo_l2_C, nb] <;> rfl)
def M.spec_AssignsTo_C {R : Type} (l : List Row) (name : List UInt8) (k : Bool → Option R) : Option R :=
  (M.spec_AssignsTo_l2 l name 0).bind fun u708 =>
  sumE u708 (fun t706 => (k true)) fun u709 =>
   letE u709 fun t707 => (k false)
def M.spec_AssignsTo (l : List Row) (name : List UInt8) : Option (Bool) := M.spec_AssignsTo_C l name some
theorem C.spec_AssignsTo : S.spec_AssignsTo.ok X0 fun x => M.spec_AssignsTo x.1.1 x.1.2.1 := fnS (fun x => M.spec_AssignsTo_C x.1.1 x.1.2.1) [] [F.spec_AssignsTo_l2] (by intros; simp only [M.spec_AssignsTo_C, nb] <;> rfl)

/-! spec_l46Put -/
def M.spec_l46Put_l5_C {R : Type} (rec_spec_l46Put : List Row → Int → List UInt8 → List Row → Option (List Row)) (l : List Row) (i : Int) (name : List UInt8) (x' : List Row) (s : Int × List Row) (kn : Int × List Row → Option R) (ke : Int × List Row → Option R) : Option R := match s with
  | (k', x'1) =>
    (idx l i).bind fun row717 =>
     ((cSl 1 row717 4).bind fun rows718 =>
      (bif decide (k' < (↑rows718.length : Int)) then
       ((idx l i).bind fun row719 =>
        ((cSl 1 row719 4).bind fun rows720 =>
         ((idx rows720 k').bind fun row721 =>
          ((cInt IntKind.i64 row721 0).bind fun n722 =>
           ((rec_spec_l46Put l n722 name x').bind fun r723 =>
            (bif ((x'1.length + [[D.sl true 5 r723]].length) * 24).ble 140737488355328 then
             (bif (x'1.length + [[D.sl true 5 r723]].length).ble 140737488355328 then (kn ((IntKind.i64.wrap (k' + 1), x'1 ++ [[D.sl true 5 r723]]))) else none) else none)))))) else (ke ((k', x'1)))))
def M.spec_l46Put_l5_b (rec_spec_l46Put : List Row → Int → List UInt8 → List Row → Option (List Row)) (l : List Row) (i : Int) (name : List UInt8) (x' : List Row) (s : Int × List Row) := M.spec_l46Put_l5_C rec_spec_l46Put l i name x' s (fun s => some (Sum.inl s)) fun t => some (Sum.inr t)
def M.spec_l46Put_l5 (rec_spec_l46Put : List Row → Int → List UInt8 → List Row → Option (List Row)) (l : List Row) (i : Int) (name : List UInt8) (x' : List Row) (s : Int × List Row) : Option (Int × List Row) := loopM (M.spec_l46Put_l5_b rec_spec_l46Put l i name x') s
def F.spec_l46Put_l5 {rec_spec_l46Put : List Row → Int → List UInt8 → List Row → Option (List Row)} (h_spec_l46Put : S.spec_l46Put.ok X0 fun x => rec_spec_l46Put x.1.1 x.1.2.1 x.1.2.2.1 x.1.2.2.2.1) : LE X0 50 := le 5 (pSt [pAt 0 (pL false 5), pAt 1 pI, pAt 2 pS, pAt 3 (pL false 5), pAt 9 (pO 300000 0), pAt 10 pI] [pAt 300000 (cA false false 0 1)]) (fun x => (x.1.2.2.2.2.2.1, x.2.1)) (fun x s => ((x.1.1, x.1.2.1, x.1.2.2.1, x.1.2.2.2.1, (), s.1, ()), (s.2, ()))) (fun x => .leaf (Int × List Row) (fun t => (Ex.exit 0, { tm := [(0, V.d (D.sl false 5 x.1.1)), (1, V.d (D.int IntKind.i64 x.1.2.1)), (2, V.d (D.str x.1.2.2.1)), (3, V.d (D.sl false 5 x.1.2.2.2.1)), (9, V.own 300000 0), (10, V.d (D.int IntKind.i64 t.fst)), (36, V.d (D.bool false))], mem := [(300000, Cell.arr false false 0 1 t.snd)] }))) (fun x => M.spec_l46Put_l5_C rec_spec_l46Put x.1.1 x.1.2.1 x.1.2.2.1 x.1.2.2.2.1) [fe h_spec_l46Put] [] (by rintro _ _ ⟨_, _⟩ _ _ <;> simp only [M.spec_l46Put_l5_C, nb] <;> rfl)
def M.spec_l46Put_C {R : Type} (rec_spec_l46Put : List Row → Int → List UInt8 → List Row → Option (List Row)) (l : List Row) (i : Int) (name : List UInt8) (x' : List Row) (k : List Row → Option R) : Option R :=
  (idx l i).bind fun row712 =>
   ((cInt IntKind.i64 row712 0).bind fun n713 =>
    (bif n713 == 1 then
     ((idx l i).bind fun row714 =>
      ((cStr row714 2).bind fun s715 =>
       (bif s715 == name then ((M.spec_l6Copy x').bind fun r716 => (k r716)) else
        ((M.spec_l46Put_l5 rec_spec_l46Put l i name x' ((0, []))).bind fun t724 =>
         ((idx l i).bind fun row725 =>
          ((cInt IntKind.i64 row725 0).bind fun n726 =>
           ((cInt IntKind.i64 row725 1).bind fun n727 =>
            ((cStr row725 2).bind fun s728 =>
             ((cStr row725 3).bind fun s729 =>
              ((cSl 1 row725 4).bind fun rows730 =>
               ((M.spec_l6Make n726 n727 s728 s729 rows730 (fzRows t724.snd)).bind fun r731 => (bif [[D.sl true 5 r731]].all pureRow then (k r731) else none)))))))))))) else
     ((M.spec_l46Put_l5 rec_spec_l46Put l i name x' ((0, []))).bind fun t732 =>
      ((idx l i).bind fun row733 =>
       ((cInt IntKind.i64 row733 0).bind fun n734 =>
        ((cInt IntKind.i64 row733 1).bind fun n735 =>
         ((cStr row733 2).bind fun s736 =>
          ((cStr row733 3).bind fun s737 =>
           ((cSl 1 row733 4).bind fun rows738 =>
            ((M.spec_l6Make n734 n735 s736 s737 rows738 (fzRows t732.snd)).bind fun r739 => (bif [[D.sl true 5 r739]].all pureRow then (k r739) else none)))))))))))
def M.spec_l46Put_N : Nat → List Row → Int → List UInt8 → List Row → Option (List Row)
  | 0 => fun _ _ _ _ => none
  | n + 1 => fun l i name x' => M.spec_l46Put_C (M.spec_l46Put_N n) l i name x' some
def M.spec_l46Put (l : List Row) (i : Int) (name : List UInt8) (x' : List Row) : Option (List Row) := lim fun n => M.spec_l46Put_N n l i name x'
theorem C.spec_l46Put_1 {rec_spec_l46Put : List Row → Int → List UInt8 → List Row → Option (List Row)} (h_spec_l46Put : S.spec_l46Put.ok X0 fun x => rec_spec_l46Put x.1.1 x.1.2.1 x.1.2.2.1 x.1.2.2.2.1) : S.spec_l46Put.ok X0 fun x => M.spec_l46Put_C rec_spec_l46Put x.1.1 x.1.2.1 x.1.2.2.1 x.1.2.2.2.1 some := fnS (fun x => M.spec_l46Put_C rec_spec_l46Put x.1.1 x.1.2.1 x.1.2.2.1 x.1.2.2.2.1) [fe C.spec_l6Copy, fe C.spec_l6Make] [F.spec_l46Put_l5 h_spec_l46Put] (by intros; simp only [M.spec_l46Put_C, nb] <;> rfl)
theorem C.spec_l46Put_N : ∀ n, S.spec_l46Put.ok X0 fun x => M.spec_l46Put_N n x.1.1 x.1.2.1 x.1.2.2.1 x.1.2.2.2.1
  | 0 => Sig.zero
  | n + 1 => C.spec_l46Put_1 (C.spec_l46Put_N n)
theorem C.spec_l46Put : S.spec_l46Put.ok X0 fun x => M.spec_l46Put x.1.1 x.1.2.1 x.1.2.2.1 x.1.2.2.2.1 := Sig.lim C.spec_l46Put_N
theorem M.spec_l46Put_of {n : Nat} {l : List Row} {i : Int} {name : List UInt8} {x' : List Row} {r : List Row} (h : M.spec_l46Put_N n l i name x' = some r) : M.spec_l46Put l i name x' = some r :=
  Sig.lim_of C.spec_l46Put_N (by intro a b h; simp [S.spec_l46Put, sg] at h; first | exact h | simp [Prod.ext_iff, h]) (x := ((l, i, name, x', ()), ())) h

/-! spec_Subst -/
def M.spec_Subst_C {R : Type} (l : List Row) (name : List UInt8) (x' : List Row) (k : List Row × Bool → Option R) : Option R :=
  (M.spec_TreeOk l).bind fun r625 =>
   (bif !r625 then ((M.spec_l6Copy l).bind fun r627 => (k ((r627, false)))) else
    ((M.spec_ExprOk x').bind fun r632 =>
     (bif !r632 then ((M.spec_l6Copy l).bind fun r633 => (k ((r633, false)))) else
      ((M.spec_AssignsTo l name).bind fun r710 =>
       (bif r710 then ((M.spec_l6Copy l).bind fun r711 => (k ((r711, false)))) else
        ((M.spec_l46Put l (IntKind.i64.wrap ((↑l.length : Int) - 1)) name x').bind fun r740 =>
         ((M.spec_TreeOk (fzRows r740)).bind fun r741 =>
          (bif !r741 then ((M.spec_l6Copy l).bind fun r742 => (k ((r742, false)))) else (k ((r740, true)))))))))))
def M.spec_Subst (l : List Row) (name : List UInt8) (x' : List Row) : Option (List Row × Bool) := M.spec_Subst_C l name x' some
theorem C.spec_Subst : S.spec_Subst.ok X0 fun x => M.spec_Subst x.1.1 x.1.2.1 x.1.2.2.1 := fnS (fun x => M.spec_Subst_C x.1.1 x.1.2.1 x.1.2.2.1) [fe C.spec_TreeOk, fe C.spec_l6Copy, fe C.spec_ExprOk, fe C.spec_AssignsTo, fe C.spec_l46Put] [] (by intros; simp only [M.spec_Subst_C, nb] <;> rfl)

/-! impl_ExprOk -/
def M.impl_ExprOk_C {R : Type} (l : List Row) (k : Bool → Option R) : Option R :=
  (M.impl_TreeOk l).bind fun r746 =>
   (bif r746 then
    ((idx l (IntKind.i64.wrap ((↑l.length : Int) - 1))).bind fun row747 =>
     ((cInt IntKind.i64 row747 0).bind fun n748 => ((M.impl_IsExpr n748).bind fun r749 => (k r749)))) else (k false))
def M.impl_ExprOk (l : List Row) : Option (Bool) := M.impl_ExprOk_C l some
theorem C.impl_ExprOk : S.impl_ExprOk.ok X0 fun x => M.impl_ExprOk x.1.1 := fnS (fun x => M.impl_ExprOk_C x.1.1) [fe C.impl_TreeOk, fe C.impl_IsExpr] [] (by intros; simp only [M.impl_ExprOk_C, nb] <;> rfl)

/-! slices_Clone (a primitive) -/
theorem C.slices_Clone : S.slices_Clone.ok X0 fun x => M.slices_Clone x.1.1 := Sig.prim (p := Prim.slices_Clone)

/-! impl_copyNodes -/
def M.impl_copyNodes_l3_C {R : Type} (v7 : List Row) (v8 : Int) (s : Int × List Row) (kn : Int × List Row → Option R) (ke : Int × List Row → Option R) : Option R := match s with
  | (v9, x') =>
    bif decide (v9 < v8) then
     ((idx v7 v9).bind fun row751 =>
      ((cInt IntKind.i64 row751 0).bind fun n752 =>
       ((cInt IntKind.i64 row751 1).bind fun n753 =>
        ((cStr row751 2).bind fun s754 =>
         ((cStr row751 3).bind fun s755 =>
          ((cSl 1 row751 4).bind fun rows756 =>
           ((M.slices_Clone rows756).bind fun r757 =>
            (bif flatRows r757 then
             (bif ((x'.length + [[D.int IntKind.i64 n752, D.int IntKind.i64 n753, D.str s754, D.str s755, D.sl true 1 r757]].length) * 72).ble 140737488355328 then
              (bif (x'.length + [[D.int IntKind.i64 n752, D.int IntKind.i64 n753, D.str s754, D.str s755, D.sl true 1 r757]].length).ble 140737488355328 then
               (kn ((IntKind.i64.wrap (v9 + 1), x' ++ [[D.int IntKind.i64 n752, D.int IntKind.i64 n753, D.str s754, D.str s755, D.sl true 1 r757]]))) else none) else none) else none)))))))) else (ke ((v9, x')))
def M.impl_copyNodes_l3_b (v7 : List Row) (v8 : Int) (s : Int × List Row) := M.impl_copyNodes_l3_C v7 v8 s (fun s => some (Sum.inl s)) fun t => some (Sum.inr t)
def M.impl_copyNodes_l3 (v7 : List Row) (v8 : Int) (s : Int × List Row) : Option (Int × List Row) := loopM (M.impl_copyNodes_l3_b v7 v8) s
def F.impl_copyNodes_l3 : LE X0 53 := le 3 (pSt [pAt 3 (pO 300000 0), pAt 7 (pL false 5), pAt 8 pI, pAt 9 pI] [pAt 300000 (cA false false 0 5)]) (fun x => (x.1.2.2.2.1, x.2.1)) (fun x s => (((), x.1.2.1, x.1.2.2.1, s.1, ()), (s.2, ()))) (fun x => .leaf (Int × List Row) (fun t => (Ex.exit 0, { tm := [(3, V.own 300000 0), (7, V.d (D.sl false 5 x.1.2.1)), (8, V.d (D.int IntKind.i64 x.1.2.2.1)), (9, V.d (D.int IntKind.i64 t.fst)), (10, V.d (D.bool false))], mem := [(300000, Cell.arr false false 0 5 t.snd)] }))) (fun x => M.impl_copyNodes_l3_C x.1.2.1 x.1.2.2.1) [fe C.slices_Clone] [] (by rintro _ _ ⟨_, _⟩ _ _ <;> simp only [M.impl_copyNodes_l3_C, nb] <;> rfl)
def M.impl_copyNodes_C {R : Type} (l : List Row) (k : List Row → Option R) : Option R :=
  (M.impl_copyNodes_l3 l ((↑l.length : Int)) ((0, []))).bind fun t758 => (k t758.snd)
def M.impl_copyNodes (l : List Row) : Option (List Row) := M.impl_copyNodes_C l some
theorem C.impl_copyNodes : S.impl_copyNodes.ok X0 fun x => M.impl_copyNodes x.1.1 := fnS (fun x => M.impl_copyNodes_C x.1.1) [] [F.impl_copyNodes_l3] (by intros; simp only [M.impl_copyNodes_C, nb] <;> rfl)

/-! impl_AssignsTo -/
def M.impl_AssignsTo_l2_C {R : Type} (l : List Row) (name : List UInt8) (v7 : List Row) (v8 : Int) (s : Int) (kn : Int → Option R) (ke : (Unit) ⊕ (Int) → Option R) : Option R := match s with
  | v9 =>
    bif decide (v9 < v8) then
     ((idx v7 v9).bind fun row760 =>
      ((cInt IntKind.i64 row760 0).bind fun n761 =>
       ((cInt IntKind.i64 row760 1).bind fun n762 =>
        ((cStr row760 2).bind fun s763 =>
         ((cStr row760 3).bind fun s764 =>
          ((cSl 1 row760 4).bind fun rows765 =>
           (bif n761 == 15 then
            (bif decide ((↑rows765.length : Int) > 0) then
             ((idx rows765 0).bind fun row766 =>
              ((cInt IntKind.i64 row766 0).bind fun n767 =>
               ((M.impl_within n767 0 (IntKind.i64.wrap ((↑l.length : Int) - 1))).bind fun r768 =>
                (bif r768 then
                 ((idx rows765 0).bind fun row769 =>
                  ((cInt IntKind.i64 row769 0).bind fun n770 =>
                   ((idx l n770).bind fun row771 =>
                    ((cInt IntKind.i64 row771 0).bind fun n772 =>
                     (bif n772 == 1 then
                      ((idx rows765 0).bind fun row773 =>
                       ((cInt IntKind.i64 row773 0).bind fun n774 =>
                        ((idx l n774).bind fun row775 =>
                         ((cStr row775 2).bind fun s776 => (bif s776 == name then (ke (.inl ())) else (kn (IntKind.i64.wrap (v9 + 1)))))))) else (kn (IntKind.i64.wrap (v9 + 1)))))))) else (kn (IntKind.i64.wrap (v9 + 1))))))) else (kn (IntKind.i64.wrap (v9 + 1)))) else
            (bif n761 == 9 then
             (bif decide ((↑rows765.length : Int) > 0) then
              ((idx rows765 0).bind fun row777 =>
               ((cInt IntKind.i64 row777 0).bind fun n778 =>
                ((M.impl_within n778 0 (IntKind.i64.wrap ((↑l.length : Int) - 1))).bind fun r779 =>
                 (bif r779 then
                  ((idx rows765 0).bind fun row780 =>
                   ((cInt IntKind.i64 row780 0).bind fun n781 =>
                    ((idx l n781).bind fun row782 =>
                     ((cInt IntKind.i64 row782 0).bind fun n783 =>
                      (bif n783 == 1 then
                       ((idx rows765 0).bind fun row784 =>
                        ((cInt IntKind.i64 row784 0).bind fun n785 =>
                         ((idx l n785).bind fun row786 =>
                          ((cStr row786 2).bind fun s787 => (bif s787 == name then (ke (.inl ())) else (kn (IntKind.i64.wrap (v9 + 1)))))))) else (kn (IntKind.i64.wrap (v9 + 1)))))))) else (kn (IntKind.i64.wrap (v9 + 1))))))) else (kn (IntKind.i64.wrap (v9 + 1)))) else
             (bif n761 == 10 then
              (bif decide ((↑rows765.length : Int) > 0) then
               ((idx rows765 0).bind fun row788 =>
                ((cInt IntKind.i64 row788 0).bind fun n789 =>
                 ((M.impl_within n789 0 (IntKind.i64.wrap ((↑l.length : Int) - 1))).bind fun r790 =>
                  (bif r790 then
                   ((idx rows765 0).bind fun row791 =>
                    ((cInt IntKind.i64 row791 0).bind fun n792 =>
                     ((idx l n792).bind fun row793 =>
                      ((cInt IntKind.i64 row793 0).bind fun n794 =>
                       (bif n794 == 1 then
                        ((idx rows765 0).bind fun row795 =>
                         ((cInt IntKind.i64 row795 0).bind fun n796 =>
                          ((idx l n796).bind fun row797 =>
                           ((cStr row797 2).bind fun s798 => (bif s798 == name then (ke (.inl ())) else (kn (IntKind.i64.wrap (v9 + 1)))))))) else (kn (IntKind.i64.wrap (v9 + 1)))))))) else (kn (IntKind.i64.wrap (v9 + 1))))))) else (kn (IntKind.i64.wrap (v9 + 1)))) else
              (bif n761 == 32 then (bif s763 == name then (ke (.inl ())) else (kn (IntKind.i64.wrap (v9 + 1)))) else (kn (IntKind.i64.wrap (v9 + 1))))))))))))) else (ke (.inr v9))
def M.impl_AssignsTo_l2_b (l : List Row) (name : List UInt8) (v7 : List Row) (v8 : Int) (s : Int) := M.impl_AssignsTo_l2_C l name v7 v8 s (fun s => some (Sum.inl s)) fun t => some (Sum.inr t)
def M.impl_AssignsTo_l2 (l : List Row) (name : List UInt8) (v7 : List Row) (v8 : Int) (s : Int) : Option ((Unit) ⊕ (Int)) := loopM (M.impl_AssignsTo_l2_b l name v7 v8) s
def F.impl_AssignsTo_l2 : LE X0 52 := le 2 (pSt [pAt 0 (pL false 5), pAt 1 pS, pAt 7 (pL false 5), pAt 8 pI, pAt 9 pI] []) (fun x => x.1.2.2.2.2.1) (fun x s => ((x.1.1, x.1.2.1, x.1.2.2.1, x.1.2.2.2.1, s, ()), ())) (fun x => .sum (.leaf (Unit) (fun t => (Ex.ret, { tm := [(4, V.d (D.bool true))], mem := [] }))) (.leaf (Int) (fun t => (Ex.exit 0, { tm := [(0, V.d (D.sl false 5 x.1.1)), (1, V.d (D.str x.1.2.1)), (7, V.d (D.sl false 5 x.1.2.2.1)), (8, V.d (D.int IntKind.i64 x.1.2.2.2.1)), (9, V.d (D.int IntKind.i64 t)), (10, V.d (D.bool false))], mem := [] })))) (fun x => M.impl_AssignsTo_l2_C x.1.1 x.1.2.1 x.1.2.2.1 x.1.2.2.2.1) [fe C.impl_within] [] (by rintro _ _ _ _ _ <;> simp only [M.impl_AssignsTo_l2_C, nb] <;> rfl)
def M.impl_AssignsTo_C {R : Type} (l : List Row) (name : List UInt8) (k : Bool → Option R) : Option R :=
  (M.impl_AssignsTo_l2 l name l ((↑l.length : Int)) 0).bind fun u801 =>
  sumE u801 (fun t799 => (k true)) fun u802 =>
   letE u802 fun t800 => (k false)
def M.impl_AssignsTo (l : List Row) (name : List UInt8) : Option (Bool) := M.impl_AssignsTo_C l name some
theorem C.impl_AssignsTo : S.impl_AssignsTo.ok X0 fun x => M.impl_AssignsTo x.1.1 x.1.2.1 := fnS (fun x => M.impl_AssignsTo_C x.1.1 x.1.2.1) [] [F.impl_AssignsTo_l2] (by intros; simp only [M.impl_AssignsTo_C, nb] <;> rfl)

/-! impl_Subst_c1 -/
def M.impl_Subst_c1_C {R : Type} (v : Int) (t' : Int) (t'1 : Int) (t'2 : List UInt8) (t'3 : List UInt8) (t'4 : List Row) (c : List UInt8) (c1 : List Row) (k : List Row × List UInt8 × List Row → Option R) : Option R :=
  bif t' == 1 then
   (bif t'2 == c then
    ((M.impl_rootOf (fzRows c1)).bind fun r822 =>
     (k (([[D.int IntKind.i64 r822.fst, D.int IntKind.i64 r822.snd.fst, D.str r822.snd.snd.fst, D.str r822.snd.snd.snd.fst, D.sl true 5 r822.snd.snd.snd.snd]], c, fzRows c1)))) else
    (k (([[D.int IntKind.i64 t', D.int IntKind.i64 t'1, D.str t'2, D.str t'3, D.sl false 5 t'4]], c, fzRows c1)))) else
   (k (([[D.int IntKind.i64 t', D.int IntKind.i64 t'1, D.str t'2, D.str t'3, D.sl false 5 t'4]], c, fzRows c1)))
def M.impl_Subst_c1 (v : Int) (t' : Int) (t'1 : Int) (t'2 : List UInt8) (t'3 : List UInt8) (t'4 : List Row) (c : List UInt8) (c1 : List Row) : Option (List Row × List UInt8 × List Row) := M.impl_Subst_c1_C v t' t'1 t'2 t'3 t'4 c c1 some
theorem C.impl_Subst_c1 : S.impl_Subst_c1.ok X0 fun x => M.impl_Subst_c1 x.1.1 x.1.2.1.1 x.1.2.1.2.1 x.1.2.1.2.2.1 x.1.2.1.2.2.2.1 x.1.2.1.2.2.2.2.1 x.2.1.1 x.2.2.1.1 := fnS (fun x => M.impl_Subst_c1_C x.1.1 x.1.2.1.1 x.1.2.1.2.1 x.1.2.1.2.2.1 x.1.2.1.2.2.2.1 x.1.2.1.2.2.2.2.1 x.2.1.1 x.2.2.1.1) [fe C.impl_rootOf] [] (by intros; simp only [M.impl_Subst_c1_C, nb] <;> rfl)

/-! impl_edited -/
def M.impl_edited_l4_C {R : Type} (rec_impl_edited : List Row → Int → List UInt8 → List Row → Option (List Row × List UInt8 × List Row)) (s : (List Row × Int × List Row × Int × Int × List UInt8 × List Row × Int × Int × List UInt8 × List UInt8) ⊕ (List Row × Int × List Row × Int × Int × List UInt8 × List Row × Int × Int × List UInt8 × List UInt8 × List Row)) (kn : (List Row × Int × List Row × Int × Int × List UInt8 × List Row × Int × Int × List UInt8 × List UInt8) ⊕ (List Row × Int × List Row × Int × Int × List UInt8 × List Row × Int × Int × List UInt8 × List UInt8 × List Row) → Option R) (ke : (List Row × Int × List Row × Int × Int × List UInt8 × List Row × Int × Int × List UInt8 × List UInt8) ⊕ (List Row × Int × List Row × Int × Int × List UInt8 × List Row × Int × Int × List UInt8 × List UInt8 × List Row) → Option R) : Option R := match s with
  | .inl ((l, i, v25, v26, v27, v, v1, x', x'1, x'2, x'3)) =>
    bif decide (v27 < v26) then
     ((idx v25 v27).bind fun row815 =>
      ((cInt IntKind.i64 row815 0).bind fun n816 =>
       ((rec_impl_edited l n816 v v1).bind fun r817 =>
        (bif ((fzRows (fzRows r817.fst)).length * 72).ble 140737488355328 then
         (bif (fzRows (fzRows r817.fst)).length.ble 140737488355328 then
          (kn (.inr ((l, i, v25, v26, IntKind.i64.wrap (v27 + 1), r817.snd.fst, fzRows r817.snd.snd, x', x'1, x'2, x'3, fzRows (fzRows r817.fst))))) else none) else none)))) else (ke (.inl ((l, i, v25, v26, v27, v, v1, x', x'1, x'2, x'3))))
  | .inr ((l, i, v25, v26, v27, v, v1, x', x'1, x'2, x'3, x'4)) =>
    bif decide (v27 < v26) then
     ((idx v25 v27).bind fun row818 =>
      ((cInt IntKind.i64 row818 0).bind fun n819 =>
       ((rec_impl_edited l n819 v v1).bind fun r820 =>
        (bif ((x'4.length + (fzRows (fzRows r820.fst)).length) * 72).ble 140737488355328 then
         (bif (x'4.length + (fzRows (fzRows r820.fst)).length).ble 140737488355328 then
          (kn (.inr ((l, i, v25, v26, IntKind.i64.wrap (v27 + 1), r820.snd.fst, fzRows r820.snd.snd, x', x'1, x'2, x'3, x'4 ++ fzRows (fzRows r820.fst))))) else none) else none)))) else (ke (.inr ((l, i, v25, v26, v27, v, v1, x', x'1, x'2, x'3, x'4))))
def M.impl_edited_l4_b (rec_impl_edited : List Row → Int → List UInt8 → List Row → Option (List Row × List UInt8 × List Row)) (s : (List Row × Int × List Row × Int × Int × List UInt8 × List Row × Int × Int × List UInt8 × List UInt8) ⊕ (List Row × Int × List Row × Int × Int × List UInt8 × List Row × Int × Int × List UInt8 × List UInt8 × List Row)) := M.impl_edited_l4_C rec_impl_edited s (fun s => some (Sum.inl s)) fun t => some (Sum.inr t)
def M.impl_edited_l4 (rec_impl_edited : List Row → Int → List UInt8 → List Row → Option (List Row × List UInt8 × List Row)) (s : (List Row × Int × List Row × Int × Int × List UInt8 × List Row × Int × Int × List UInt8 × List UInt8) ⊕ (List Row × Int × List Row × Int × Int × List UInt8 × List Row × Int × Int × List UInt8 × List UInt8 × List Row)) : Option ((List Row × Int × List Row × Int × Int × List UInt8 × List Row × Int × Int × List UInt8 × List UInt8) ⊕ (List Row × Int × List Row × Int × Int × List UInt8 × List Row × Int × Int × List UInt8 × List UInt8 × List Row)) := loopM (M.impl_edited_l4_b rec_impl_edited) s
def F.impl_edited_l4 {rec_impl_edited : List Row → Int → List UInt8 → List Row → Option (List Row × List UInt8 × List Row)} (h_impl_edited : S.impl_edited.ok X0 fun x => rec_impl_edited x.1.1 x.1.2.1 x.2.1.1 x.2.2.1.1) : LE X0 95 := le 4 (pOr (pSt [pAt 0 (pL false 5), pAt 1 pI, pAt 2 (pClo 55 [] [pP 100000 0, pP 100001 0]), pAt 8 (pP 300000 0), pAt 25 (pL false 1), pAt 26 pI, pAt 27 pI] [pAt 100000 (cB 9 [pS]), pAt 100001 (cB 24 [pL false 5]), pAt 300000 (cB 56 [pI, pI, pS, pS, pNil 5])]) (pSt [pAt 0 (pL false 5), pAt 1 pI, pAt 2 (pClo 55 [] [pP 100000 0, pP 100001 0]), pAt 8 (pP 300000 0), pAt 25 (pL false 1), pAt 26 pI, pAt 27 pI] [pAt 100000 (cB 9 [pS]), pAt 100001 (cB 24 [pL false 5]), pAt 300000 (cB 56 [pI, pI, pS, pS, pO 300001 0]), pAt 300001 (cA false false 0 5)])) (σ := (List Row × Int × List Row × Int × Int × List UInt8 × List Row × Int × Int × List UInt8 × List UInt8) ⊕ (List Row × Int × List Row × Int × Int × List UInt8 × List Row × Int × Int × List UInt8 × List UInt8 × List Row)) (fun x => (match x with | .inl x => .inl ((x.1.1, x.1.2.1, x.1.2.2.2.2.1, x.1.2.2.2.2.2.1, x.1.2.2.2.2.2.2.1, x.2.1.1, x.2.2.1.1, x.2.2.2.1.1, x.2.2.2.1.2.1, x.2.2.2.1.2.2.1, x.2.2.2.1.2.2.2.1)) | .inr x => .inr ((x.1.1, x.1.2.1, x.1.2.2.2.2.1, x.1.2.2.2.2.2.1, x.1.2.2.2.2.2.2.1, x.2.1.1, x.2.2.1.1, x.2.2.2.1.1, x.2.2.2.1.2.1, x.2.2.2.1.2.2.1, x.2.2.2.1.2.2.2.1, x.2.2.2.2.1)))) (fun x s => (match s with | .inl s => .inl (((s.1, s.2.1, ((), ((), (), ())), (), s.2.2.1, s.2.2.2.1, s.2.2.2.2.1, ()), ((s.2.2.2.2.2.1, ()), (s.2.2.2.2.2.2.1, ()), (s.2.2.2.2.2.2.2.1, s.2.2.2.2.2.2.2.2.1, s.2.2.2.2.2.2.2.2.2.1, s.2.2.2.2.2.2.2.2.2.2, (), ()), ()))) | .inr s => .inr (((s.1, s.2.1, ((), ((), (), ())), (), s.2.2.1, s.2.2.2.1, s.2.2.2.2.1, ()), ((s.2.2.2.2.2.1, ()), (s.2.2.2.2.2.2.1, ()), (s.2.2.2.2.2.2.2.1, s.2.2.2.2.2.2.2.2.1, s.2.2.2.2.2.2.2.2.2.1, s.2.2.2.2.2.2.2.2.2.2.1, (), ()), s.2.2.2.2.2.2.2.2.2.2.2, ()))))) (fun x => .sum (.leaf (List Row × Int × List Row × Int × Int × List UInt8 × List Row × Int × Int × List UInt8 × List UInt8) (fun t => (Ex.exit 0, { tm := [(0, V.d (D.sl false 5 t.fst)), (1, V.d (D.int IntKind.i64 t.snd.fst)), (2, V.clo 55 [] [V.ptr 100000 0, V.ptr 100001 0]), (8, V.ptr 300000 0), (25, V.d (D.sl false 1 t.snd.snd.fst)), (26, V.d (D.int IntKind.i64 t.snd.snd.snd.fst)), (27, V.d (D.int IntKind.i64 t.snd.snd.snd.snd.fst)), (28, V.d (D.bool false))], mem := [(100000, Cell.box 9 [V.d (D.str t.snd.snd.snd.snd.snd.fst)]), (100001, Cell.box 24 [V.d (D.sl false 5 t.snd.snd.snd.snd.snd.snd.fst)]), (300000, Cell.box 56 [V.d (D.int IntKind.i64 t.snd.snd.snd.snd.snd.snd.snd.fst), V.d (D.int IntKind.i64 t.snd.snd.snd.snd.snd.snd.snd.snd.fst), V.d (D.str t.snd.snd.snd.snd.snd.snd.snd.snd.snd.fst), V.d (D.str t.snd.snd.snd.snd.snd.snd.snd.snd.snd.snd), V.nil 5])] }))) (.leaf (List Row × Int × List Row × Int × Int × List UInt8 × List Row × Int × Int × List UInt8 × List UInt8 × List Row) (fun t => (Ex.exit 0, { tm := [(0, V.d (D.sl false 5 t.fst)), (1, V.d (D.int IntKind.i64 t.snd.fst)), (2, V.clo 55 [] [V.ptr 100000 0, V.ptr 100001 0]), (8, V.ptr 300000 0), (25, V.d (D.sl false 1 t.snd.snd.fst)), (26, V.d (D.int IntKind.i64 t.snd.snd.snd.fst)), (27, V.d (D.int IntKind.i64 t.snd.snd.snd.snd.fst)), (28, V.d (D.bool false))], mem := [(100000, Cell.box 9 [V.d (D.str t.snd.snd.snd.snd.snd.fst)]), (100001, Cell.box 24 [V.d (D.sl false 5 t.snd.snd.snd.snd.snd.snd.fst)]), (300000, Cell.box 56 [V.d (D.int IntKind.i64 t.snd.snd.snd.snd.snd.snd.snd.fst), V.d (D.int IntKind.i64 t.snd.snd.snd.snd.snd.snd.snd.snd.fst), V.d (D.str t.snd.snd.snd.snd.snd.snd.snd.snd.snd.fst), V.d (D.str t.snd.snd.snd.snd.snd.snd.snd.snd.snd.snd.fst), V.own 300001 0]), (300001, Cell.arr false false 0 5 t.snd.snd.snd.snd.snd.snd.snd.snd.snd.snd.snd)] })))) (fun x => M.impl_edited_l4_C rec_impl_edited) [fe h_impl_edited] [] (by rintro _ _ (⟨_, _, _, _, _, _, _, _, _, _, _⟩ | ⟨_, _, _, _, _, _, _, _, _, _, _, _⟩) _ _ <;> simp only [M.impl_edited_l4_C, nb] <;> rfl) (hE := by intro _ _ s _; rcases s with s | s <;> kernel_rfl)
def M.impl_edited_C {R : Type} (rec_impl_edited : List Row → Int → List UInt8 → List Row → Option (List Row × List UInt8 × List Row)) (l : List Row) (i : Int) (c : List UInt8) (c1 : List Row) (k : List Row × List UInt8 × List Row → Option R) : Option R :=
  (idx l i).bind fun row809 =>
   ((cInt IntKind.i64 row809 0).bind fun n810 =>
    ((cInt IntKind.i64 row809 1).bind fun n811 =>
     ((cStr row809 2).bind fun s812 =>
      ((cStr row809 3).bind fun s813 =>
       ((cSl 1 row809 4).bind fun rows814 =>
        ((M.impl_edited_l4 rec_impl_edited (.inl ((l, i, rows814, (↑rows814.length : Int), 0, c, fzRows c1, n810, n811, s812, s813)))).bind fun u826 =>
        sumE u826 (fun t821 =>
         ((M.impl_Subst_c1 t821.snd.fst t821.snd.snd.snd.snd.snd.snd.snd.fst t821.snd.snd.snd.snd.snd.snd.snd.snd.fst t821.snd.snd.snd.snd.snd.snd.snd.snd.snd.fst t821.snd.snd.snd.snd.snd.snd.snd.snd.snd.snd [] t821.snd.snd.snd.snd.snd.fst t821.snd.snd.snd.snd.snd.snd.fst).bind fun r823 => (k ((fzRows r823.fst, r823.snd.fst, fzRows r823.snd.snd))))) fun u827 =>
         letE u827 fun t824 =>
          ((M.impl_Subst_c1 t824.snd.fst t824.snd.snd.snd.snd.snd.snd.snd.fst t824.snd.snd.snd.snd.snd.snd.snd.snd.fst t824.snd.snd.snd.snd.snd.snd.snd.snd.snd.fst t824.snd.snd.snd.snd.snd.snd.snd.snd.snd.snd.fst (fzRows t824.snd.snd.snd.snd.snd.snd.snd.snd.snd.snd.snd) t824.snd.snd.snd.snd.snd.fst t824.snd.snd.snd.snd.snd.snd.fst).bind fun r825 => (k ((fzRows r825.fst, r825.snd.fst, fzRows r825.snd.snd))))))))))
def M.impl_edited_N : Nat → List Row → Int → List UInt8 → List Row → Option (List Row × List UInt8 × List Row)
  | 0 => fun _ _ _ _ => none
  | n + 1 => fun l i c c1 => M.impl_edited_C (M.impl_edited_N n) l i c c1 some
def M.impl_edited (l : List Row) (i : Int) (c : List UInt8) (c1 : List Row) : Option (List Row × List UInt8 × List Row) := lim fun n => M.impl_edited_N n l i c c1
theorem C.impl_edited_1 {rec_impl_edited : List Row → Int → List UInt8 → List Row → Option (List Row × List UInt8 × List Row)} (h_impl_edited : S.impl_edited.ok X0 fun x => rec_impl_edited x.1.1 x.1.2.1 x.2.1.1 x.2.2.1.1) : S.impl_edited.ok X0 fun x => M.impl_edited_C rec_impl_edited x.1.1 x.1.2.1 x.2.1.1 x.2.2.1.1 some := fnS (fun x => M.impl_edited_C rec_impl_edited x.1.1 x.1.2.1 x.2.1.1 x.2.2.1.1) [fe C.impl_Subst_c1] [F.impl_edited_l4 h_impl_edited] (by intros; simp only [M.impl_edited_C, nb] <;> rfl)
theorem C.impl_edited_N : ∀ n, S.impl_edited.ok X0 fun x => M.impl_edited_N n x.1.1 x.1.2.1 x.2.1.1 x.2.2.1.1
  | 0 => Sig.zero
  | n + 1 => C.impl_edited_1 (C.impl_edited_N n)
theorem C.impl_edited : S.impl_edited.ok X0 fun x => M.impl_edited x.1.1 x.1.2.1 x.2.1.1 x.2.2.1.1 := Sig.lim C.impl_edited_N
theorem M.impl_edited_of {n : Nat} {l : List Row} {i : Int} {c : List UInt8} {c1 : List Row} {r : List Row × List UInt8 × List Row} (h : M.impl_edited_N n l i c c1 = some r) : M.impl_edited l i c c1 = some r :=
  Sig.lim_of C.impl_edited_N (by intro a b h; simp [S.impl_edited, sg] at h; first | exact h | simp [Prod.ext_iff, h]) (x := ((l, i, ((), ((), (), ())), ()), ((c, ()), (c1, ()), ()))) h

/-! impl_edit -/
def M.impl_edit_C {R : Type} (l : List Row) (i : Int) (c : List UInt8) (c1 : List Row) (k : List Row × Bool × List UInt8 × List Row → Option R) : Option R :=
  (M.impl_TreeOk l).bind fun r805 =>
   (bif !r805 then ((M.impl_copyNodes l).bind fun r806 => (k ((r806, false, c, fzRows c1)))) else
    ((M.impl_within i 0 (IntKind.i64.wrap ((↑l.length : Int) - 1))).bind fun r807 =>
     (bif !r807 then ((M.impl_copyNodes l).bind fun r808 => (k ((r808, false, c, fzRows c1)))) else
      ((M.impl_edited l (IntKind.i64.wrap ((↑l.length : Int) - 1)) c (fzRows c1)).bind fun r828 =>
       (bif (↑(fzRows r828.fst).length : Int) != 1 then
        ((M.impl_copyNodes l).bind fun r829 => (k ((r829, false, r828.snd.fst, fzRows r828.snd.snd)))) else
        ((idx (fzRows r828.fst) 0).bind fun row830 =>
         ((cInt IntKind.i64 row830 0).bind fun n831 =>
          ((cInt IntKind.i64 row830 1).bind fun n832 =>
           ((cStr row830 2).bind fun s833 =>
            ((cStr row830 3).bind fun s834 =>
             ((cSl 5 row830 4).bind fun rows835 =>
              ((M.impl_tree_list n831 n832 s833 s834 rows835).bind fun r836 =>
               ((M.impl_TreeOk (fzRows r836)).bind fun r837 =>
                (bif !r837 then
                 ((M.impl_copyNodes l).bind fun r838 => (k ((r838, false, r828.snd.fst, fzRows r828.snd.snd)))) else (k ((r836, true, r828.snd.fst, fzRows r828.snd.snd)))))))))))))))))
def M.impl_edit (l : List Row) (i : Int) (c : List UInt8) (c1 : List Row) : Option (List Row × Bool × List UInt8 × List Row) := M.impl_edit_C l i c c1 some
theorem C.impl_edit : S.impl_edit.ok X0 fun x => M.impl_edit x.1.1 x.1.2.1 x.2.1.1 x.2.2.1.1 := fnS (fun x => M.impl_edit_C x.1.1 x.1.2.1 x.2.1.1 x.2.2.1.1) [fe C.impl_TreeOk, fe C.impl_copyNodes, fe C.impl_within, fe C.impl_edited, fe C.impl_tree_list] [] (by intros; simp only [M.impl_edit_C, nb] <;> rfl)

/-! impl_Subst -/
def M.impl_Subst_C {R : Type} (l : List Row) (name : List UInt8) (x' : List Row) (k : List Row × Bool → Option R) : Option R :=
  (M.impl_ExprOk x').bind fun r750 =>
   (bif !r750 then ((M.impl_copyNodes l).bind fun r759 => (k ((r759, false)))) else
    ((M.impl_AssignsTo l name).bind fun r803 =>
     (bif r803 then ((M.impl_copyNodes l).bind fun r804 => (k ((r804, false)))) else ((M.impl_edit l 0 name x').bind fun r839 => (k ((r839.fst, r839.snd.fst)))))))
def M.impl_Subst (l : List Row) (name : List UInt8) (x' : List Row) : Option (List Row × Bool) := M.impl_Subst_C l name x' some
theorem C.impl_Subst : S.impl_Subst.ok X0 fun x => M.impl_Subst x.1.1 x.1.2.1 x.1.2.2.1 := fnS (fun x => M.impl_Subst_C x.1.1 x.1.2.1 x.1.2.2.1) [fe C.impl_ExprOk, fe C.impl_copyNodes, fe C.impl_AssignsTo, fe C.impl_edit] [] (by intros; simp only [M.impl_Subst_C, nb] <;> rfl)

/-! laws_FnExactSubst -/
def M.laws_FnExactSubst_C {R : Type} (aL : List Row) (aName : List UInt8) (aX : List Row) (k : Bool → Option R) : Option R :=
  bif decide ((↑aName.length : Int) > 1048576) then (k true) else
   ((M.laws_szNodeS aL 1048576).bind fun r621 =>
    (bif decide (r621 < 0) then (k true) else
     ((M.laws_szNodeS aX r621).bind fun r622 =>
      (bif decide (r622 < 0) then (k true) else
       ((M.laws_toNodeS aL).bind fun r623 =>
        ((M.laws_toNodeS aX).bind fun r624 =>
         ((M.spec_Subst (fzRows r623) aName (fzRows r624)).bind fun r743 =>
          (bif [[D.sl true 5 r743.fst], [D.bool r743.snd]].all pureRow then
           ((M.laws_toNodeS aL).bind fun r744 =>
            ((M.laws_toNodeS aX).bind fun r745 =>
             ((M.impl_Subst (fzRows r744) aName (fzRows r745)).bind fun r840 =>
              (bif [[D.sl true 5 r840.fst], [D.bool r840.snd]].all pureRow then
               ((M.laws_eqNodeS (fzRows r840.fst) (fzRows r743.fst)).bind fun r841 =>
                (bif !r841 then (k false) else
                 (bif !r840.snd == r743.snd then (k false) else
                  ((M.laws_toNodeS aL).bind fun r842 =>
                   ((M.laws_eqNodeS (fzRows r744) (fzRows r842)).bind fun r843 =>
                    (bif !r843 then (k false) else
                     ((M.laws_toNodeS aX).bind fun r844 =>
                      ((M.laws_eqNodeS (fzRows r745) (fzRows r844)).bind fun r845 =>
                       (bif !r845 then (k false) else
                        ((M.laws_markNodeS 1 r744).bind fun r846 =>
                         ((M.laws_markNodeS r846.fst r745).bind fun r847 =>
                          (bif decide (r847.fst < 0) then (k false) else
                           ((M.laws_eqNodeS (fzRows r840.fst) (fzRows r743.fst)).bind fun r848 =>
                            (bif !r848 then (k false) else
                             (bif !r840.snd == r743.snd then (k false) else
                              ((M.laws_markNodeS 1 r840.fst).bind fun r849 =>
                               ((M.laws_heldNodeS (fzRows r849.snd) 1).bind fun r850 =>
                                (bif decide (r850 < 0) then (k false) else
                                 (bif r850 != r849.fst then (k false) else
                                  ((M.laws_toNodeS aL).bind fun r851 =>
                                   ((M.laws_toNodeS aX).bind fun r852 =>
                                    ((M.impl_Subst (fzRows r851) aName (fzRows r852)).bind fun r853 =>
                                     (bif [[D.sl true 5 r853.fst], [D.bool r853.snd]].all pureRow then
                                      ((M.laws_eqNodeS (fzRows r853.fst) (fzRows r743.fst)).bind fun r854 =>
                                       (bif !r854 then (k false) else
                                        (bif !r853.snd == r743.snd then (k false) else
                                         ((M.laws_heldNodeS (fzRows r849.snd) 1).bind fun r855 =>
                                          (bif decide (r855 < 0) then (k false) else (bif r855 != r849.fst then (k false) else (k true))))))) else none))))))))))))))))))))))) else none)))) else none))))))))
def M.laws_FnExactSubst (aL : List Row) (aName : List UInt8) (aX : List Row) : Option (Bool) := M.laws_FnExactSubst_C aL aName aX some
theorem C.laws_FnExactSubst : S.laws_FnExactSubst.ok X0 fun x => M.laws_FnExactSubst x.1.1 x.1.2.1 x.1.2.2.1 := fnS (fun x => M.laws_FnExactSubst_C x.1.1 x.1.2.1 x.1.2.2.1) [fe C.laws_szNodeS, fe C.laws_toNodeS, fe C.spec_Subst, fe C.impl_Subst, fe C.laws_eqNodeS, fe C.laws_markNodeS, fe C.laws_heldNodeS] [] (by intros; simp only [M.laws_FnExactSubst_C, nb] <;> rfl)


end
end Go.Proofs.YtodbelembghegaaGreatDoor
