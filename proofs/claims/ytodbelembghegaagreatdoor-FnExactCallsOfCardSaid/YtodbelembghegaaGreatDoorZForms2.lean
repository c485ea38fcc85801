/-
  The plain forms of the functions, and that they are what the functions come to (2).
-/
import Derived.Test.YtodbelembghegaaGreatDoorZForms
namespace Go.Proofs.YtodbelembghegaaGreatDoor
open Go Go.Vm
set_option linter.unusedVariables false
set_option linter.unusedSimpArgs false
noncomputable section
abbrev S.spec_ExprOk : Sig := sg 47 [pL false 5] [] (ρ := Bool) fun r => ([[D.bool r]], [])
abbrev S.impl_ExprOk : Sig := sg 51 [pL false 5] [] (ρ := Bool) fun r => ([[D.bool r]], [])
abbrev S.slices_Clone : Sig := sg 94 [pL false 1] [] (ρ := List Row) fun r => ([[D.sl true 1 r]], [])
/-! spec_ExprOk -/
def M.spec_ExprOk_C {R : Type} (l : List Row) (k : Bool → Option R) : Option R :=
  (M.spec_TreeOk l).bind fun r628 =>
   (bif r628 then
    ((idx l (IntKind.i64.wrap ((↑l.length : Int) - 1))).bind fun row629 =>
     ((cInt IntKind.i64 row629 0).bind fun n630 => ((M.spec_IsExpr n630).bind fun r631 => (k r631)))) else (k false))
def M.spec_ExprOk (l : List Row) : Option (Bool) := M.spec_ExprOk_C l some
theorem C.spec_ExprOk : S.spec_ExprOk.ok X0 fun x => M.spec_ExprOk x.1.1 := fnS (fun x => M.spec_ExprOk_C x.1.1) [fe C.spec_TreeOk, fe C.spec_IsExpr] [] (by intros; simp only [M.spec_ExprOk_C, nb] <;> rfl)

/-! impl_ExprOk -/
def M.impl_ExprOk_C {R : Type} (l : List Row) (k : Bool → Option R) : Option R :=
  (M.impl_TreeOk l).bind fun r746 =>
   (bif r746 then
    ((idx l (IntKind.i64.wrap ((↑l.length : Int) - 1))).bind fun row747 =>
     ((cInt IntKind.i64 row747 0).bind fun n748 => ((M.impl_IsExpr n748).bind fun r749 => (k r749)))) else (k false))
def M.impl_ExprOk (l : List Row) : Option (Bool) := M.impl_ExprOk_C l some
theorem C.impl_ExprOk : S.impl_ExprOk.ok X0 fun x => M.impl_ExprOk x.1.1 := fnS (fun x => M.impl_ExprOk_C x.1.1) [fe C.impl_TreeOk, fe C.impl_IsExpr] [] (by intros; simp only [M.impl_ExprOk_C, nb] <;> rfl)

/-! slices_Clone (a primitive) -/
theorem C.slices_Clone : S.slices_Clone.ok X0 fun x => M.slices_Clone x.1.1 := Sig.prim (p := Prim.slices_Clone)

abbrev S.spec_l48Put : Sig := sg 61 [pL true 2, pAgg [pS, pS]] [] (ρ := List Row) fun r => ([[D.sl true 2 r]], [])
abbrev S.spec_CallsOf : Sig := sg 20 [pL false 5] [] (ρ := List Row) fun r => ([[D.sl true 2 r]], [])
abbrev S.impl_StartOf : Sig := sg 99 [pL false 5, pI] [] (ρ := Int) fun r => ([[D.int IntKind.i64 r]], [])
abbrev S.impl_Part : Sig := sg 62 [pL false 5, pI] [] (ρ := List Row) fun r => ([[D.sl true 5 r]], [])
abbrev S.slices_SortFunc : Sig := sg 63 [pO 100000 0, pClo 64 [] []] [cA false true 0 2] (ρ := List Row) fun r => ([], [Cell.arr false true 0 2 r])
abbrev S.slices_Compact : Sig := sg 66 [pL true 2] [] (ρ := List Row) fun r => ([[D.sl true 2 r]], [])
abbrev S.impl_CallsOf : Sig := sg 21 [pL false 5] [] (ρ := List Row) fun r => ([[D.sl true 2 r]], [])
abbrev S.laws_eqEdge : Sig := sg 67 [pAgg [pS, pS], pAgg [pS, pS]] [] (ρ := Bool) fun r => ([[D.bool r]], [])
abbrev S.laws_eqEdgeS : Sig := sg 22 [pL false 2, pL false 2] [] (ρ := Bool) fun r => ([[D.bool r]], [])
abbrev S.laws_markEdgeS : Sig := sg 23 [pO 100000 0, pI] [cA false true 0 2] (ρ := Int × List Row) fun r => ([[D.int IntKind.i64 r.fst]], [Cell.arr false true 0 2 r.snd])
abbrev S.laws_heldEdgeS : Sig := sg 24 [pL false 2, pI] [] (ρ := Int) fun r => ([[D.int IntKind.i64 r]], [])
abbrev S.laws_FnExactCallsOf : Sig := sg 6 [pL false 5] [] (ρ := Bool) fun r => ([[D.bool r]], [])
/-! spec_l48Put -/
def M.spec_l48Put_l4_C {R : Type} (x' : List Row) (x'1 : List UInt8) (x'2 : List UInt8) (s : Bool × Int × List Row) (kn : Bool × Int × List Row → Option R) (ke : (Unit) ⊕ (Bool × Int × List Row) → Option R) : Option R := match s with
  | (done, i, x'3) =>
    bif decide (i < (↑x'.length : Int)) then
     ((idx x' i).bind fun row878 =>
      (x'[i.toNat]?.bind fun row879 =>
       ((cStr row879 0).bind fun s880 =>
        ((cStr row879 1).bind fun s881 =>
         (bif bif s880 == x'1 then bif s881 == x'2 then true else false else false then (ke (.inl ())) else
          (bif !done then
           ((idx x' i).bind fun row882 =>
            (x'[i.toNat]?.bind fun row883 =>
             ((cStr row883 0).bind fun s884 =>
              (bif !(Op.bytesLess s884 x'1 || s884 == x'1) then
               (bif ((x'3.length + [[D.str x'1, D.str x'2]].length) * 32).ble 140737488355328 then
                (bif (x'3.length + [[D.str x'1, D.str x'2]].length).ble 140737488355328 then
                 ((idx x' i).bind fun row885 =>
                  (x'[i.toNat]?.bind fun row886 =>
                   ((cStr row886 0).bind fun s887 =>
                    ((cStr row886 1).bind fun s888 =>
                     (bif (((x'3 ++ [[D.str x'1, D.str x'2]]).length + [[D.str s887, D.str s888]].length) * 32).ble 140737488355328 then
                      (bif ((x'3 ++ [[D.str x'1, D.str x'2]]).length + [[D.str s887, D.str s888]].length).ble 140737488355328 then
                       (kn ((true, IntKind.i64.wrap (i + 1), x'3 ++ [[D.str x'1, D.str x'2]] ++ [[D.str s887, D.str s888]]))) else none) else none))))) else none) else none) else
               ((idx x' i).bind fun row889 =>
                (x'[i.toNat]?.bind fun row890 =>
                 ((cStr row890 0).bind fun s891 =>
                  (bif s891 == x'1 then
                   ((idx x' i).bind fun row892 =>
                    (x'[i.toNat]?.bind fun row893 =>
                     ((cStr row893 1).bind fun s894 =>
                      (bif !(Op.bytesLess s894 x'2 || s894 == x'2) then
                       (bif ((x'3.length + [[D.str x'1, D.str x'2]].length) * 32).ble 140737488355328 then
                        (bif (x'3.length + [[D.str x'1, D.str x'2]].length).ble 140737488355328 then
                         ((idx x' i).bind fun row895 =>
                          (x'[i.toNat]?.bind fun row896 =>
                           ((cStr row896 0).bind fun s897 =>
                            ((cStr row896 1).bind fun s898 =>
                             (bif (((x'3 ++ [[D.str x'1, D.str x'2]]).length + [[D.str s897, D.str s898]].length) * 32).ble 140737488355328 then
                              (bif ((x'3 ++ [[D.str x'1, D.str x'2]]).length + [[D.str s897, D.str s898]].length).ble 140737488355328 then
                               (kn ((true, IntKind.i64.wrap (i + 1), x'3 ++ [[D.str x'1, D.str x'2]] ++ [[D.str s897, D.str s898]]))) else none) else none))))) else none) else none) else
                       ((idx x' i).bind fun row899 =>
                        (x'[i.toNat]?.bind fun row900 =>
                         ((cStr row900 0).bind fun s901 =>
                          ((cStr row900 1).bind fun s902 =>
                           (bif ((x'3.length + [[D.str s901, D.str s902]].length) * 32).ble 140737488355328 then
                            (bif (x'3.length + [[D.str s901, D.str s902]].length).ble 140737488355328 then (kn ((done, IntKind.i64.wrap (i + 1), x'3 ++ [[D.str s901, D.str s902]]))) else none) else none))))))))) else
                   ((idx x' i).bind fun row903 =>
                    (x'[i.toNat]?.bind fun row904 =>
                     ((cStr row904 0).bind fun s905 =>
                      ((cStr row904 1).bind fun s906 =>
                       (bif ((x'3.length + [[D.str s905, D.str s906]].length) * 32).ble 140737488355328 then
                        (bif (x'3.length + [[D.str s905, D.str s906]].length).ble 140737488355328 then (kn ((done, IntKind.i64.wrap (i + 1), x'3 ++ [[D.str s905, D.str s906]]))) else none) else none))))))))))))) else
           ((idx x' i).bind fun row907 =>
            (x'[i.toNat]?.bind fun row908 =>
             ((cStr row908 0).bind fun s909 =>
              ((cStr row908 1).bind fun s910 =>
               (bif ((x'3.length + [[D.str s909, D.str s910]].length) * 32).ble 140737488355328 then
                (bif (x'3.length + [[D.str s909, D.str s910]].length).ble 140737488355328 then (kn ((done, IntKind.i64.wrap (i + 1), x'3 ++ [[D.str s909, D.str s910]]))) else none) else none))))))))))) else (ke (.inr ((done, i, x'3))))
def M.spec_l48Put_l4_b (x' : List Row) (x'1 : List UInt8) (x'2 : List UInt8) (s : Bool × Int × List Row) := M.spec_l48Put_l4_C x' x'1 x'2 s (fun s => some (Sum.inl s)) fun t => some (Sum.inr t)
def M.spec_l48Put_l4 (x' : List Row) (x'1 : List UInt8) (x'2 : List UInt8) (s : Bool × Int × List Row) : Option ((Unit) ⊕ (Bool × Int × List Row)) := loopM (M.spec_l48Put_l4_b x' x'1 x'2) s
def F.spec_l48Put_l4 : LE X0 61 := le 4 (pSt [pAt 0 (pO 300000 0), pAt 3 (pP 300001 0), pAt 5 (pO 300002 0), pAt 6 pB, pAt 7 pI] [pAt 300000 (cA false true 0 2), pAt 300001 (cB 73 [pS, pS]), pAt 300002 (cA false true 0 2)]) (fun x => (x.1.2.2.2.1, x.1.2.2.2.2.1, x.2.2.2.1)) (fun x s => (((), (), (), s.1, s.2.1, ()), (x.2.1, (x.2.2.1.1, x.2.2.1.2.1, ()), s.2.2, ()))) (fun x => .sum (.leaf (Unit) (fun t => (Ex.ret, { tm := [(4, V.own 300000 0)], mem := [(300000, Cell.arr false true 0 2 x.2.1)] }))) (.leaf (Bool × Int × List Row) (fun t => (Ex.exit 0, { tm := [(0, V.own 300000 0), (3, V.ptr 300001 0), (5, V.own 300002 0), (6, V.d (D.bool t.fst)), (7, V.d (D.int IntKind.i64 t.snd.fst)), (12, V.d (D.bool false))], mem := [(300000, Cell.arr false true 0 2 x.2.1), (300001, Cell.box 73 [V.d (D.str x.2.2.1.1), V.d (D.str x.2.2.1.2.1)]), (300002, Cell.arr false true 0 2 t.snd.snd)] })))) (fun x => M.spec_l48Put_l4_C x.2.1 x.2.2.1.1 x.2.2.1.2.1) [] [] (by rintro _ _ ⟨_, _, _⟩ _ _ <;> simp only [M.spec_l48Put_l4_C, nb] <;> rfl)
def M.spec_l48Put_C {R : Type} (l : List Row) (e : List UInt8) (e1 : List UInt8) (k : List Row → Option R) : Option R :=
  (M.spec_l48Put_l4 l e e1 ((false, 0, []))).bind fun u913 =>
  sumE u913 (fun t911 => (bif flatRows l then (k l) else none)) fun u914 =>
   letE u914 fun t912 =>
    (bif !t912.fst then
     (bif ((t912.snd.snd.length + [[D.str e, D.str e1]].length) * 32).ble 140737488355328 then
      (bif (t912.snd.snd.length + [[D.str e, D.str e1]].length).ble 140737488355328 then
       (bif flatRows (t912.snd.snd ++ [[D.str e, D.str e1]]) then (k (t912.snd.snd ++ [[D.str e, D.str e1]])) else none) else none) else none) else (bif flatRows t912.snd.snd then (k t912.snd.snd) else none))
def M.spec_l48Put (l : List Row) (e : List UInt8) (e1 : List UInt8) : Option (List Row) := M.spec_l48Put_C l e e1 some
theorem C.spec_l48Put : S.spec_l48Put.ok X0 fun x => M.spec_l48Put x.1.1 x.1.2.1.1 x.1.2.1.2.1 := fnS (fun x => M.spec_l48Put_C x.1.1 x.1.2.1.1 x.1.2.1.2.1) [] [F.spec_l48Put_l4] (by intros; simp only [M.spec_l48Put_C, nb] <;> rfl)

/-! spec_CallsOf -/
def M.spec_CallsOf_l13_C {R : Type} (l : List Row) (kids : List Row) (k' : Int) (from' : List UInt8) (x'1 : List Row) (s : Int × List Row) (kn : Int × List Row → Option R) (ke : Int × List Row → Option R) : Option R := match s with
  | (i, x') =>
    bif decide (i < (↑x'1.length : Int)) then
     ((idx x'1 i).bind fun row872 =>
      (x'1[i.toNat]?.bind fun row873 =>
       ((cInt IntKind.i64 row873 0).bind fun n874 =>
        (bif n874 == 7 then
         ((idx x'1 i).bind fun row875 =>
          (x'1[i.toNat]?.bind fun row876 =>
           ((cStr row876 2).bind fun s877 =>
            (bif flatRows x' then ((M.spec_l48Put x' from' s877).bind fun r915 => (kn ((IntKind.i64.wrap (i + 1), r915)))) else none)))) else (kn ((IntKind.i64.wrap (i + 1), x'))))))) else (ke ((i, x')))
def M.spec_CallsOf_l13_b (l : List Row) (kids : List Row) (k' : Int) (from' : List UInt8) (x'1 : List Row) (s : Int × List Row) := M.spec_CallsOf_l13_C l kids k' from' x'1 s (fun s => some (Sum.inl s)) fun t => some (Sum.inr t)
def M.spec_CallsOf_l13 (l : List Row) (kids : List Row) (k' : Int) (from' : List UInt8) (x'1 : List Row) (s : Int × List Row) : Option (Int × List Row) := loopM (M.spec_CallsOf_l13_b l kids k' from' x'1) s
def F.spec_CallsOf_l13 : LE X0 20 := le 13 (pSt [pAt 0 (pL false 5), pAt 3 (pO 300000 0), pAt 4 (pL false 1), pAt 5 pI, pAt 6 pS, pAt 7 (pO 300001 0), pAt 8 pI] [pAt 300000 (cA false true 0 2), pAt 300001 (cA false false 0 5)]) (fun x => (x.1.2.2.2.2.2.2.1, x.2.1)) (fun x s => ((x.1.1, (), x.1.2.2.1, x.1.2.2.2.1, x.1.2.2.2.2.1, (), s.1, ()), (s.2, x.2.2.1, ()))) (fun x => .leaf (Int × List Row) (fun t => (Ex.exit 2, { tm := [(0, V.d (D.sl false 5 x.1.1)), (3, V.own 300000 0), (4, V.d (D.sl false 1 x.1.2.2.1)), (5, V.d (D.int IntKind.i64 x.1.2.2.2.1)), (6, V.d (D.str x.1.2.2.2.2.1)), (7, V.own 300001 0), (8, V.d (D.int IntKind.i64 t.fst)), (53, V.d (D.bool false))], mem := [(300000, Cell.arr false true 0 2 t.snd), (300001, Cell.arr false false 0 5 x.2.2.1)] }))) (fun x => M.spec_CallsOf_l13_C x.1.1 x.1.2.2.1 x.1.2.2.2.1 x.1.2.2.2.2.1 x.2.2.1) [fe C.spec_l48Put] [] (by rintro _ _ ⟨_, _⟩ _ _ <;> simp only [M.spec_CallsOf_l13_C, nb] <;> rfl)
def M.spec_CallsOf_l6_C {R : Type} (l : List Row) (kids : List Row) (s : Int × List Row) (kn : Int × List Row → Option R) (ke : Int × List Row → Option R) : Option R := match s with
  | (k', x') =>
    bif decide (k' < (↑kids.length : Int)) then
     ((idx kids k').bind fun row861 =>
      ((cInt IntKind.i64 row861 0).bind fun n862 =>
       ((idx l n862).bind fun row863 =>
        ((cInt IntKind.i64 row863 0).bind fun n864 =>
         (bif n864 == 44 then
          ((idx kids k').bind fun row865 =>
           ((cInt IntKind.i64 row865 0).bind fun n866 =>
            ((idx l n866).bind fun row867 =>
             ((cStr row867 2).bind fun s868 =>
              ((idx kids k').bind fun row869 =>
               ((cInt IntKind.i64 row869 0).bind fun n870 =>
                ((M.spec_l6Part l n870).bind fun r871 =>
                 ((M.spec_CallsOf_l13 l kids k' s868 r871 ((0, x'))).bind fun t916 => (kn ((IntKind.i64.wrap (k' + 1), t916.snd))))))))))) else
          ((idx kids k').bind fun row917 =>
           ((cInt IntKind.i64 row917 0).bind fun n918 =>
            ((M.spec_l6Part l n918).bind fun r919 =>
             ((M.spec_CallsOf_l13 l kids k' [] r919 ((0, x'))).bind fun t920 => (kn ((IntKind.i64.wrap (k' + 1), t920.snd)))))))))))) else (ke ((k', x')))
def M.spec_CallsOf_l6_b (l : List Row) (kids : List Row) (s : Int × List Row) := M.spec_CallsOf_l6_C l kids s (fun s => some (Sum.inl s)) fun t => some (Sum.inr t)
def M.spec_CallsOf_l6 (l : List Row) (kids : List Row) (s : Int × List Row) : Option (Int × List Row) := loopM (M.spec_CallsOf_l6_b l kids) s
def F.spec_CallsOf_l6 : LE X0 20 := le 6 (pSt [pAt 0 (pL false 5), pAt 3 (pO 300000 0), pAt 4 (pL false 1), pAt 5 pI] [pAt 300000 (cA false true 0 2)]) (fun x => (x.1.2.2.2.1, x.2.1)) (fun x s => ((x.1.1, (), x.1.2.2.1, s.1, ()), (s.2, ()))) (fun x => .leaf (Int × List Row) (fun t => (Ex.exit 0, { tm := [(0, V.d (D.sl false 5 x.1.1)), (3, V.own 300000 0), (4, V.d (D.sl false 1 x.1.2.2.1)), (5, V.d (D.int IntKind.i64 t.fst)), (24, V.d (D.bool false))], mem := [(300000, Cell.arr false true 0 2 t.snd)] }))) (fun x => M.spec_CallsOf_l6_C x.1.1 x.1.2.2.1) [fe C.spec_l6Part] [F.spec_CallsOf_l13] (by rintro _ _ ⟨_, _⟩ _ _ <;> simp only [M.spec_CallsOf_l6_C, nb] <;> rfl)
def M.spec_CallsOf_C {R : Type} (l : List Row) (k : List Row → Option R) : Option R :=
  (M.spec_ProgramOk l).bind fun r858 =>
   (bif !r858 then (k []) else
    ((idx l (IntKind.i64.wrap ((↑l.length : Int) - 1))).bind fun row859 =>
     ((cSl 1 row859 4).bind fun rows860 =>
      ((M.spec_CallsOf_l6 l rows860 ((0, []))).bind fun t921 => (bif flatRows t921.snd then (k t921.snd) else none)))))
def M.spec_CallsOf (l : List Row) : Option (List Row) := M.spec_CallsOf_C l some
theorem C.spec_CallsOf : S.spec_CallsOf.ok X0 fun x => M.spec_CallsOf x.1.1 := fnS (fun x => M.spec_CallsOf_C x.1.1) [fe C.spec_ProgramOk] [F.spec_CallsOf_l6] (by intros; simp only [M.spec_CallsOf_C, nb] <;> rfl)

/-! impl_StartOf -/
def M.impl_StartOf_C {R : Type} (l : List Row) (i : Int) (k : Int → Option R) : Option R :=
  (M.impl_startsOf l).bind fun r933 =>
   (bif !r933.snd then (k (-1)) else
    ((M.impl_within i 0 (IntKind.i64.wrap ((↑l.length : Int) - 1))).bind fun r934 =>
     (bif !r934 then (k (-1)) else
      ((idx r933.fst i).bind fun row935 =>
       (r933.fst[i.toNat]?.bind fun row936 => ((cInt IntKind.i64 row936 0).bind fun n937 => (k n937)))))))
def M.impl_StartOf (l : List Row) (i : Int) : Option (Int) := M.impl_StartOf_C l i some
theorem C.impl_StartOf : S.impl_StartOf.ok X0 fun x => M.impl_StartOf x.1.1 x.1.2.1 := fnS (fun x => M.impl_StartOf_C x.1.1 x.1.2.1) [fe C.impl_startsOf, fe C.impl_within] [] (by intros; simp only [M.impl_StartOf_C, nb] <;> rfl)

/-! impl_Part -/
def M.impl_Part_C {R : Type} (l : List Row) (i : Int) (k : List Row → Option R) : Option R :=
  (M.impl_StartOf l i).bind fun r938 =>
   (bif decide (r938 < 0) then (k []) else
    ((M.impl_treeAt l i).bind fun r939 =>
     ((M.impl_tree_list r939.fst r939.snd.fst r939.snd.snd.fst r939.snd.snd.snd.fst (fzRows r939.snd.snd.snd.snd)).bind fun r940 => (bif [[D.sl true 5 r940]].all pureRow then (k r940) else none))))
def M.impl_Part (l : List Row) (i : Int) : Option (List Row) := M.impl_Part_C l i some
theorem C.impl_Part : S.impl_Part.ok X0 fun x => M.impl_Part x.1.1 x.1.2.1 := fnS (fun x => M.impl_Part_C x.1.1 x.1.2.1) [fe C.impl_StartOf, fe C.impl_treeAt, fe C.impl_tree_list] [] (by intros; simp only [M.impl_Part_C, nb] <;> rfl)

/-! slices_SortFunc (a primitive) -/
theorem C.slices_SortFunc : S.slices_SortFunc.ok X0 fun x => M.slices_SortFunc x.2.1 := Sig.prim (p := Prim.slices_SortFunc)

/-! slices_Compact (a primitive) -/
theorem C.slices_Compact : S.slices_Compact.ok X0 fun x => M.slices_Compact x.1.1 := Sig.prim (p := Prim.slices_Compact)

/-! impl_CallsOf -/
def M.impl_CallsOf_l11_C {R : Type} (l : List Row) (from' : List UInt8) (v20 : List Row) (v21 : Int) (v22 : Int) (v39 : List Row) (v40 : Int) (s : Int × List Row) (kn : Int × List Row → Option R) (ke : Int × List Row → Option R) : Option R := match s with
  | (v41, x') =>
    bif decide (v41 < v40) then
     ((idx v39 v41).bind fun row942 =>
      ((cInt IntKind.i64 row942 0).bind fun n943 =>
       ((cInt IntKind.i64 row942 1).bind fun n944 =>
        ((cStr row942 2).bind fun s945 =>
         ((cStr row942 3).bind fun s946 =>
          ((cSl 1 row942 4).bind fun rows947 =>
           (bif n943 == 7 then
            (bif ((x'.length + [[D.str from', D.str s945]].length) * 32).ble 140737488355328 then
             (bif (x'.length + [[D.str from', D.str s945]].length).ble 140737488355328 then (kn ((IntKind.i64.wrap (v41 + 1), x' ++ [[D.str from', D.str s945]]))) else none) else none) else (kn ((IntKind.i64.wrap (v41 + 1), x')))))))))) else (ke ((v41, x')))
def M.impl_CallsOf_l11_b (l : List Row) (from' : List UInt8) (v20 : List Row) (v21 : Int) (v22 : Int) (v39 : List Row) (v40 : Int) (s : Int × List Row) := M.impl_CallsOf_l11_C l from' v20 v21 v22 v39 v40 s (fun s => some (Sum.inl s)) fun t => some (Sum.inr t)
def M.impl_CallsOf_l11 (l : List Row) (from' : List UInt8) (v20 : List Row) (v21 : Int) (v22 : Int) (v39 : List Row) (v40 : Int) (s : Int × List Row) : Option (Int × List Row) := loopM (M.impl_CallsOf_l11_b l from' v20 v21 v22 v39 v40) s
def F.impl_CallsOf_l11 : LE X0 21 := le 11 (pSt [pAt 0 (pL false 5), pAt 3 (pO 300000 0), pAt 6 pS, pAt 20 (pL false 1), pAt 21 pI, pAt 22 pI, pAt 39 (pL false 5), pAt 40 pI, pAt 41 pI] [pAt 300000 (cA false true 0 2)]) (fun x => (x.1.2.2.2.2.2.2.2.2.1, x.2.1)) (fun x s => ((x.1.1, (), x.1.2.2.1, x.1.2.2.2.1, x.1.2.2.2.2.1, x.1.2.2.2.2.2.1, x.1.2.2.2.2.2.2.1, x.1.2.2.2.2.2.2.2.1, s.1, ()), (s.2, ()))) (fun x => .leaf (Int × List Row) (fun t => (Ex.exit 2, { tm := [(0, V.d (D.sl false 5 x.1.1)), (3, V.own 300000 0), (6, V.d (D.str x.1.2.2.1)), (20, V.d (D.sl false 1 x.1.2.2.2.1)), (21, V.d (D.int IntKind.i64 x.1.2.2.2.2.1)), (22, V.d (D.int IntKind.i64 x.1.2.2.2.2.2.1)), (39, V.d (D.sl false 5 x.1.2.2.2.2.2.2.1)), (40, V.d (D.int IntKind.i64 x.1.2.2.2.2.2.2.2.1)), (41, V.d (D.int IntKind.i64 t.fst)), (42, V.d (D.bool false))], mem := [(300000, Cell.arr false true 0 2 t.snd)] }))) (fun x => M.impl_CallsOf_l11_C x.1.1 x.1.2.2.1 x.1.2.2.2.1 x.1.2.2.2.2.1 x.1.2.2.2.2.2.1 x.1.2.2.2.2.2.2.1 x.1.2.2.2.2.2.2.2.1) [] [] (by rintro _ _ ⟨_, _⟩ _ _ <;> simp only [M.impl_CallsOf_l11_C, nb] <;> rfl)
def M.impl_CallsOf_l5_C {R : Type} (l : List Row) (v20 : List Row) (v21 : Int) (s : Int × List Row) (kn : Int × List Row → Option R) (ke : Int × List Row → Option R) : Option R := match s with
  | (v22, x') =>
    bif decide (v22 < v21) then
     ((idx v20 v22).bind fun row927 =>
      ((cInt IntKind.i64 row927 0).bind fun n928 =>
       ((idx l n928).bind fun row929 =>
        ((cInt IntKind.i64 row929 0).bind fun n930 =>
         (bif n930 == 44 then
          ((idx l n928).bind fun row931 =>
           ((cStr row931 2).bind fun s932 =>
            ((M.impl_Part l n928).bind fun r941 =>
             ((M.impl_CallsOf_l11 l s932 v20 v21 v22 (fzRows r941) ((↑(fzRows r941).length : Int)) ((0, x'))).bind fun t948 => (kn ((IntKind.i64.wrap (v22 + 1), t948.snd))))))) else
          ((M.impl_Part l n928).bind fun r949 =>
           ((M.impl_CallsOf_l11 l [] v20 v21 v22 (fzRows r949) ((↑(fzRows r949).length : Int)) ((0, x'))).bind fun t950 => (kn ((IntKind.i64.wrap (v22 + 1), t950.snd)))))))))) else (ke ((v22, x')))
def M.impl_CallsOf_l5_b (l : List Row) (v20 : List Row) (v21 : Int) (s : Int × List Row) := M.impl_CallsOf_l5_C l v20 v21 s (fun s => some (Sum.inl s)) fun t => some (Sum.inr t)
def M.impl_CallsOf_l5 (l : List Row) (v20 : List Row) (v21 : Int) (s : Int × List Row) : Option (Int × List Row) := loopM (M.impl_CallsOf_l5_b l v20 v21) s
def F.impl_CallsOf_l5 : LE X0 21 := le 5 (pSt [pAt 0 (pL false 5), pAt 3 (pO 300000 0), pAt 20 (pL false 1), pAt 21 pI, pAt 22 pI] [pAt 300000 (cA false true 0 2)]) (fun x => (x.1.2.2.2.2.1, x.2.1)) (fun x s => ((x.1.1, (), x.1.2.2.1, x.1.2.2.2.1, s.1, ()), (s.2, ()))) (fun x => .leaf (Int × List Row) (fun t => (Ex.exit 0, { tm := [(0, V.d (D.sl false 5 x.1.1)), (3, V.own 300000 0), (20, V.d (D.sl false 1 x.1.2.2.1)), (21, V.d (D.int IntKind.i64 x.1.2.2.2.1)), (22, V.d (D.int IntKind.i64 t.fst)), (23, V.d (D.bool false))], mem := [(300000, Cell.arr false true 0 2 t.snd)] }))) (fun x => M.impl_CallsOf_l5_C x.1.1 x.1.2.2.1 x.1.2.2.2.1) [fe C.impl_Part] [F.impl_CallsOf_l11] (by rintro _ _ ⟨_, _⟩ _ _ <;> simp only [M.impl_CallsOf_l5_C, nb] <;> rfl)
def M.impl_CallsOf_C {R : Type} (l : List Row) (k : List Row → Option R) : Option R :=
  (M.impl_ProgramOk l).bind fun r924 =>
   (bif !r924 then (k []) else
    ((idx l (IntKind.i64.wrap ((↑l.length : Int) - 1))).bind fun row925 =>
     ((cSl 1 row925 4).bind fun rows926 =>
      ((M.impl_CallsOf_l5 l rows926 ((↑rows926.length : Int)) ((0, []))).bind fun t951 =>
       ((M.slices_SortFunc t951.snd).bind fun r952 =>
        (bif flatRows r952 then ((M.slices_Compact r952).bind fun r953 => (bif flatRows r953 then (k r953) else none)) else none))))))
def M.impl_CallsOf (l : List Row) : Option (List Row) := M.impl_CallsOf_C l some
theorem C.impl_CallsOf : S.impl_CallsOf.ok X0 fun x => M.impl_CallsOf x.1.1 := fnS (fun x => M.impl_CallsOf_C x.1.1) [fe C.impl_ProgramOk, fe C.slices_SortFunc, fe C.slices_Compact] [F.impl_CallsOf_l5] (by intros; simp only [M.impl_CallsOf_C, nb] <;> rfl)

/-! laws_eqEdge -/
def M.laws_eqEdge_C {R : Type} (a : List UInt8) (a1 : List UInt8) (b : List UInt8) (b1 : List UInt8) (k : Bool → Option R) : Option R :=
  bif !a == b then (k false) else (bif !a1 == b1 then (k false) else (k true))
def M.laws_eqEdge (a : List UInt8) (a1 : List UInt8) (b : List UInt8) (b1 : List UInt8) : Option (Bool) := M.laws_eqEdge_C a a1 b b1 some
theorem C.laws_eqEdge : S.laws_eqEdge.ok X0 fun x => M.laws_eqEdge x.1.1.1 x.1.1.2.1 x.1.2.1.1 x.1.2.1.2.1 := fnS (fun x => M.laws_eqEdge_C x.1.1.1 x.1.1.2.1 x.1.2.1.1 x.1.2.1.2.1) [] [] (by intros; simp only [M.laws_eqEdge_C, nb] <;> rfl)

/-! laws_eqEdgeS -/
def M.laws_eqEdgeS_l4_C {R : Type} (a : List Row) (b : List Row) (s : Int) (kn : Int → Option R) (ke : (Unit) ⊕ (Int) → Option R) : Option R := match s with
  | i =>
    bif decide (i < (↑a.length : Int)) then
     ((idx a i).bind fun row955 =>
      ((cStr row955 0).bind fun s956 =>
       ((cStr row955 1).bind fun s957 =>
        ((idx b i).bind fun row958 =>
         ((cStr row958 0).bind fun s959 =>
          ((cStr row958 1).bind fun s960 =>
           ((M.laws_eqEdge s956 s957 s959 s960).bind fun r961 => (bif !r961 then (ke (.inl ())) else (kn (IntKind.i64.wrap (i + 1))))))))))) else (ke (.inr i))
def M.laws_eqEdgeS_l4_b (a : List Row) (b : List Row) (s : Int) := M.laws_eqEdgeS_l4_C a b s (fun s => some (Sum.inl s)) fun t => some (Sum.inr t)
def M.laws_eqEdgeS_l4 (a : List Row) (b : List Row) (s : Int) : Option ((Unit) ⊕ (Int)) := loopM (M.laws_eqEdgeS_l4_b a b) s
def F.laws_eqEdgeS_l4 : LE X0 22 := le 4 (pSt [pAt 0 (pL false 2), pAt 1 (pL false 2), pAt 5 pI] []) (fun x => x.1.2.2.1) (fun x s => ((x.1.1, x.1.2.1, s, ()), ())) (fun x => .sum (.leaf (Unit) (fun t => (Ex.ret, { tm := [(4, V.d (D.bool false))], mem := [] }))) (.leaf (Int) (fun t => (Ex.exit 0, { tm := [(0, V.d (D.sl false 2 x.1.1)), (1, V.d (D.sl false 2 x.1.2.1)), (5, V.d (D.int IntKind.i64 t)), (14, V.d (D.bool false))], mem := [] })))) (fun x => M.laws_eqEdgeS_l4_C x.1.1 x.1.2.1) [fe C.laws_eqEdge] [] (by rintro _ _ _ _ _ <;> simp only [M.laws_eqEdgeS_l4_C, nb] <;> rfl)
def M.laws_eqEdgeS_C {R : Type} (a : List Row) (b : List Row) (k : Bool → Option R) : Option R :=
  bif (↑a.length : Int) != (↑b.length : Int) then (k false) else
   ((M.laws_eqEdgeS_l4 a b 0).bind fun u964 =>
   sumE u964 (fun t962 => (k false)) fun u965 =>
    letE u965 fun t963 => (k true))
def M.laws_eqEdgeS (a : List Row) (b : List Row) : Option (Bool) := M.laws_eqEdgeS_C a b some
theorem C.laws_eqEdgeS : S.laws_eqEdgeS.ok X0 fun x => M.laws_eqEdgeS x.1.1 x.1.2.1 := fnS (fun x => M.laws_eqEdgeS_C x.1.1 x.1.2.1) [] [F.laws_eqEdgeS_l4] (by intros; simp only [M.laws_eqEdgeS_C, nb] <;> rfl)

/-! laws_markEdgeS -/
def M.laws_markEdgeS_l2_C {R : Type} (s : Int × Int × List Row) (kn : Int × Int × List Row → Option R) (ke : Int × Int × List Row → Option R) : Option R := match s with
  | (k', i, v) =>
    bif decide (i < (↑v.length : Int)) then
     ((M.laws_markText k').bind fun r971 =>
      ((idx v i).bind fun row972 =>
       (v[i.toNat]?.bind fun row973 =>
        ((M.laws_markText (IntKind.i64.wrap (k' + 1))).bind fun r974 =>
         ((idx (v.set i.toNat (splice row973 0 [D.str r971])) i).bind fun row975 =>
          (((v.set i.toNat (splice row973 0 [D.str r971]))[i.toNat]?).bind fun row976 =>
           (kn ((IntKind.i64.wrap (IntKind.i64.wrap (k' + 1) + 1), IntKind.i64.wrap (i + 1), (v.set i.toNat (splice row973 0 [D.str r971])).set i.toNat (splice row976 1 [D.str r974])))))))))) else (ke ((k', i, v)))
def M.laws_markEdgeS_l2_b (s : Int × Int × List Row) := M.laws_markEdgeS_l2_C s (fun s => some (Sum.inl s)) fun t => some (Sum.inr t)
def M.laws_markEdgeS_l2 (s : Int × Int × List Row) : Option (Int × Int × List Row) := loopM (M.laws_markEdgeS_l2_b) s
def F.laws_markEdgeS_l2 : LE X0 23 := le 2 (pSt [pAt 0 (pO 100000 0), pAt 1 pI, pAt 5 pI] [pAt 100000 (cA false true 0 2)]) (fun x => (x.1.2.1, x.1.2.2.1, x.2.1)) (fun x s => (((), s.1, s.2.1, ()), (s.2.2, ()))) (fun x => .leaf (Int × Int × List Row) (fun t => (Ex.exit 0, { tm := [(0, V.own 100000 0), (1, V.d (D.int IntKind.i64 t.fst)), (5, V.d (D.int IntKind.i64 t.snd.fst)), (9, V.d (D.bool false))], mem := [(100000, Cell.arr false true 0 2 t.snd.snd)] }))) (fun x => M.laws_markEdgeS_l2_C) [fe C.laws_markText] [] (by rintro _ _ ⟨_, _, _⟩ _ _ <;> simp only [M.laws_markEdgeS_l2_C, nb] <;> rfl)
def M.laws_markEdgeS_C {R : Type} (k' : Int) (c : List Row) (k : Int × List Row → Option R) : Option R :=
  (M.laws_markEdgeS_l2 ((k', 0, c))).bind fun t977 => (k ((t977.fst, t977.snd.snd)))
def M.laws_markEdgeS (k' : Int) (c : List Row) : Option (Int × List Row) := M.laws_markEdgeS_C k' c some
theorem C.laws_markEdgeS : S.laws_markEdgeS.ok X0 fun x => M.laws_markEdgeS x.1.2.1 x.2.1 := fnS (fun x => M.laws_markEdgeS_C x.1.2.1 x.2.1) [] [F.laws_markEdgeS_l2] (by intros; simp only [M.laws_markEdgeS_C, nb] <;> rfl)

/-! laws_heldEdgeS -/
def M.laws_heldEdgeS_l2_C {R : Type} (a : List Row) (s : Int × Int) (kn : Int × Int → Option R) (ke : (Unit) ⊕ (Int × Int) → Option R) : Option R := match s with
  | (k', i) =>
    bif decide (i < (↑a.length : Int)) then
     ((idx a i).bind fun row979 =>
      ((cStr row979 0).bind fun s980 =>
       ((M.laws_markText k').bind fun r981 =>
        (bif !s980 == r981 then (ke (.inl ())) else
         ((idx a i).bind fun row982 =>
          ((cStr row982 1).bind fun s983 =>
           ((M.laws_markText (IntKind.i64.wrap (k' + 1))).bind fun r984 =>
            (bif !s983 == r984 then (ke (.inl ())) else (kn ((IntKind.i64.wrap (IntKind.i64.wrap (k' + 1) + 1), IntKind.i64.wrap (i + 1)))))))))))) else (ke (.inr ((k', i))))
def M.laws_heldEdgeS_l2_b (a : List Row) (s : Int × Int) := M.laws_heldEdgeS_l2_C a s (fun s => some (Sum.inl s)) fun t => some (Sum.inr t)
def M.laws_heldEdgeS_l2 (a : List Row) (s : Int × Int) : Option ((Unit) ⊕ (Int × Int)) := loopM (M.laws_heldEdgeS_l2_b a) s
def F.laws_heldEdgeS_l2 : LE X0 24 := le 2 (pSt [pAt 0 (pL false 2), pAt 1 pI, pAt 5 pI] []) (fun x => (x.1.2.1, x.1.2.2.1)) (fun x s => ((x.1.1, s.1, s.2, ()), ())) (fun x => .sum (.leaf (Unit) (fun t => (Ex.ret, { tm := [(4, V.d (D.int IntKind.i64 (-1)))], mem := [] }))) (.leaf (Int × Int) (fun t => (Ex.exit 0, { tm := [(0, V.d (D.sl false 2 x.1.1)), (1, V.d (D.int IntKind.i64 t.fst)), (5, V.d (D.int IntKind.i64 t.snd)), (9, V.d (D.bool false))], mem := [] })))) (fun x => M.laws_heldEdgeS_l2_C x.1.1) [fe C.laws_markText] [] (by rintro _ _ ⟨_, _⟩ _ _ <;> simp only [M.laws_heldEdgeS_l2_C, nb] <;> rfl)
def M.laws_heldEdgeS_C {R : Type} (a : List Row) (k' : Int) (k : Int → Option R) : Option R :=
  (M.laws_heldEdgeS_l2 a ((k', 0))).bind fun u987 =>
  sumE u987 (fun t985 => (k (-1))) fun u988 =>
   letE u988 fun t986 => (k t986.fst)
def M.laws_heldEdgeS (a : List Row) (k' : Int) : Option (Int) := M.laws_heldEdgeS_C a k' some
theorem C.laws_heldEdgeS : S.laws_heldEdgeS.ok X0 fun x => M.laws_heldEdgeS x.1.1 x.1.2.1 := fnS (fun x => M.laws_heldEdgeS_C x.1.1 x.1.2.1) [] [F.laws_heldEdgeS_l2] (by intros; simp only [M.laws_heldEdgeS_C, nb] <;> rfl)

/-! laws_FnExactCallsOf -/
def M.laws_FnExactCallsOf_C {R : Type} (aL : List Row) (k : Bool → Option R) : Option R :=
  (M.laws_szNodeS aL 1048576).bind fun r856 =>
   (bif decide (r856 < 0) then (k true) else
    ((M.laws_toNodeS aL).bind fun r857 =>
     ((M.spec_CallsOf (fzRows r857)).bind fun r922 =>
      (bif [[D.sl true 2 r922]].all pureRow then
       ((M.laws_toNodeS aL).bind fun r923 =>
        ((M.impl_CallsOf (fzRows r923)).bind fun r954 =>
         (bif [[D.sl true 2 r954]].all pureRow then
          ((M.laws_eqEdgeS r954 r922).bind fun r966 =>
           (bif !r966 then (k false) else
            ((M.laws_toNodeS aL).bind fun r967 =>
             ((M.laws_eqNodeS (fzRows r923) (fzRows r967)).bind fun r968 =>
              (bif !r968 then (k false) else
               ((M.laws_markNodeS 1 r923).bind fun r969 =>
                (bif decide (r969.fst < 0) then (k false) else
                 ((M.laws_eqEdgeS r954 r922).bind fun r970 =>
                  (bif !r970 then (k false) else
                   ((M.laws_markEdgeS 1 r954).bind fun r978 =>
                    ((M.laws_heldEdgeS r978.snd 1).bind fun r989 =>
                     (bif decide (r989 < 0) then (k false) else
                      (bif r989 != r978.fst then (k false) else
                       ((M.laws_toNodeS aL).bind fun r990 =>
                        ((M.impl_CallsOf (fzRows r990)).bind fun r991 =>
                         (bif [[D.sl true 2 r991]].all pureRow then
                          ((M.laws_eqEdgeS r991 r922).bind fun r992 =>
                           (bif !r992 then (k false) else
                            ((M.laws_heldEdgeS r978.snd 1).bind fun r993 =>
                             (bif decide (r993 < 0) then (k false) else (bif r993 != r978.fst then (k false) else (k true)))))) else none)))))))))))))))) else none))) else none))))
def M.laws_FnExactCallsOf (aL : List Row) : Option (Bool) := M.laws_FnExactCallsOf_C aL some
theorem C.laws_FnExactCallsOf : S.laws_FnExactCallsOf.ok X0 fun x => M.laws_FnExactCallsOf x.1.1 := fnS (fun x => M.laws_FnExactCallsOf_C x.1.1) [fe C.laws_szNodeS, fe C.laws_toNodeS, fe C.spec_CallsOf, fe C.impl_CallsOf, fe C.laws_eqEdgeS, fe C.laws_eqNodeS, fe C.laws_markNodeS, fe C.laws_markEdgeS, fe C.laws_heldEdgeS] [] (by intros; simp only [M.laws_FnExactCallsOf_C, nb] <;> rfl)


end
end Go.Proofs.YtodbelembghegaaGreatDoor
