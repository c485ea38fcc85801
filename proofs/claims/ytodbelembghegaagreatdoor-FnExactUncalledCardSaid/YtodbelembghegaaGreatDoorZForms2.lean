import Derived.Test.YtodbelembghegaaGreatDoorZForms
namespace Go.Proofs.YtodbelembghegaaGreatDoor
open Go Go.Vm
set_option linter.unusedVariables false
set_option linter.unusedSimpArgs false
noncomputable section
abbrev S.spec_ExprOk : Sig := sg 47 [pL false 5] [] (ρ := Bool) fun r => ([[D.bool r]], [])
abbrev S.impl_ExprOk : Sig := sg 51 [pL false 5] [] (ρ := Bool) fun r => ([[D.bool r]], [])
abbrev S.slices_Clone : Sig := sg 94 [pL false 1] [] (ρ := List Row) fun r => ([[D.sl true 1 r]], [])
def M.spec_ExprOk_C {R : Type} (l : List Row) (k : Bool → Option R) : Option R :=
 (M.spec_TreeOk l).bind fun r628 =>
 (bif r628 then
 ((idx l (IntKind.i64.wrap ((↑l.length : Int) - 1))).bind fun row629 =>
 ((cInt IntKind.i64 row629 0).bind fun n630 => ((M.spec_IsExpr n630).bind fun r631 => (k r631)))) else (k false))
def M.spec_ExprOk (l : List Row) : Option (Bool) := M.spec_ExprOk_C l some
theorem C.spec_ExprOk : S.spec_ExprOk.ok X0 fun x => M.spec_ExprOk x.1.1 := fnS (fun x => M.spec_ExprOk_C x.1.1) [fe C.spec_TreeOk, fe C.spec_IsExpr] [] (by intros; simp only [M.spec_ExprOk_C, nb] <;> rfl)
def M.impl_ExprOk_C {R : Type} (l : List Row) (k : Bool → Option R) : Option R :=
 (M.impl_TreeOk l).bind fun r746 =>
 (bif r746 then
 ((idx l (IntKind.i64.wrap ((↑l.length : Int) - 1))).bind fun row747 =>
 ((cInt IntKind.i64 row747 0).bind fun n748 => ((M.impl_IsExpr n748).bind fun r749 => (k r749)))) else (k false))
def M.impl_ExprOk (l : List Row) : Option (Bool) := M.impl_ExprOk_C l some
theorem C.impl_ExprOk : S.impl_ExprOk.ok X0 fun x => M.impl_ExprOk x.1.1 := fnS (fun x => M.impl_ExprOk_C x.1.1) [fe C.impl_TreeOk, fe C.impl_IsExpr] [] (by intros; simp only [M.impl_ExprOk_C, nb] <;> rfl)
theorem C.slices_Clone : S.slices_Clone.ok X0 fun x => M.slices_Clone x.1.1 := Sig.prim (p := Prim.slices_Clone)
abbrev S.spec_l48Put : Sig := sg 61 [pL true 2, pAgg [pS, pS]] [] (ρ := List Row) fun r => ([[D.sl true 2 r]], [])
abbrev S.spec_CallsOf : Sig := sg 20 [pL false 5] [] (ρ := List Row) fun r => ([[D.sl true 2 r]], [])
abbrev S.impl_StartOf : Sig := sg 99 [pL false 5, pI] [] (ρ := Int) fun r => ([[D.int IntKind.i64 r]], [])
abbrev S.impl_Part : Sig := sg 62 [pL false 5, pI] [] (ρ := List Row) fun r => ([[D.sl true 5 r]], [])
abbrev S.slices_SortFunc : Sig := sg 63 [pO 100000 0, pClo 64 [] []] [cA false true 0 2] (ρ := List Row) fun r => ([], [Cell.arr false true 0 2 r])
abbrev S.slices_Compact : Sig := sg 66 [pL true 2] [] (ρ := List Row) fun r => ([[D.sl true 2 r]], [])
abbrev S.impl_CallsOf : Sig := sg 21 [pL false 5] [] (ρ := List Row) fun r => ([[D.sl true 2 r]], [])
def M.spec_l48Put_l4_C {R : Type} (x' : List Row) (x'1 : List UInt8) (x'2 : List UInt8) (s : Bool × Int × List Row) (kn : Bool × Int × List Row → Option R) (ke : (Unit) ⊕ (Bool × Int × List Row) → Option R) : Option R := match s with
 | (done, i, x'3) =>
 bif decide (i < (↑x'.length : Int)) then
 ((idx x' i).bind fun row878 =>
 (x'[i.toNat]?.bind fun row879 =>
 ((cStr row879 0).bind fun s880 =>
 ((cStr row879 1).bind fun s881 =>
 (bif bif s880 == x'1 then bif s881 == x'2 then true else false else false then (ke (.inl ())) else
 (bif !done then
 ((idx x' i).bind fun row882 =>
 (x'[i.toNat]?.bind fun row883 =>
 ((cStr row883 0).bind fun s884 =>
 (bif !(Op.bytesLess s884 x'1 || s884 == x'1) then
 (bif ((x'3.length + [[D.str x'1, D.str x'2]].length) * 32).ble 140737488355328 then
 (bif (x'3.length + [[D.str x'1, D.str x'2]].length).ble 140737488355328 then
 ((idx x' i).bind fun row885 =>
 (x'[i.toNat]?.bind fun row886 =>
 ((cStr row886 0).bind fun s887 =>
 ((cStr row886 1).bind fun s888 =>
 (bif (((x'3 ++ [[D.str x'1, D.str x'2]]).length + [[D.str s887, D.str s888]].length) * 32).ble 140737488355328 then
 (bif ((x'3 ++ [[D.str x'1, D.str x'2]]).length + [[D.str s887, D.str s888]].length).ble 140737488355328 then
 (kn ((true, IntKind.i64.wrap (i + 1), x'3 ++ [[D.str x'1, D.str x'2]] ++ [[D.str s887, D.str s888]]))) else none) else none))))) else none) else none) else
 ((idx x' i).bind fun row889 =>
 (x'[i.toNat]?.bind fun row890 =>
 ((cStr row890 0).bind fun s891 =>
 (bif s891 == x'1 then
 ((idx x' i).bind fun row892 =>
 (x'[i.toNat]?.bind fun row893 =>
 ((cStr row893 1).bind fun s894 =>
 (bif !(Op.bytesLess s894 x'2 || s894 == x'2) then
 (bif ((x'3.length + [[D.str x'1, D.str x'2]].length) * 32).ble 140737488355328 then
 (bif (x'3.length + [[D.str x'1, D.str x'2]].length).ble 140737488355328 then
 ((idx x' i).bind fun row895 =>
 (x'[i.toNat]?.bind fun row896 =>
 ((cStr row896 0).bind fun s897 =>
 ((cStr row896 1).bind fun s898 =>
 (bif (((x'3 ++ [[D.str x'1, D.str x'2]]).length + [[D.str s897, D.str s898]].length) * 32).ble 140737488355328 then
 (bif ((x'3 ++ [[D.str x'1, D.str x'2]]).length + [[D.str s897, D.str s898]].length).ble 140737488355328 then
 (kn ((true, IntKind.i64.wrap (i + 1), x'3 ++ [[D.str x'1, D.str x'2]] ++ [[D.str s897, D.str s898]]))) else none) else none))))) else none) else none) else
 ((idx x' i).bind fun row899 =>
 (x'[i.toNat]?.bind fun row900 =>
 ((cStr row900 0).bind fun s901 =>
 ((cStr row900 1).bind fun s902 =>
 (bif ((x'3.length + [[D.str s901, D.str s902]].length) * 32).ble 140737488355328 then
 (bif (x'3.length + [[D.str s901, D.str s902]].length).ble 140737488355328 then (kn ((done, IntKind.i64.wrap (i + 1), x'3 ++ [[D.str s901, D.str s902]]))) else none) else none))))))))) else
 ((idx x' i).bind fun row903 =>
 (x'[i.toNat]?.bind fun row904 =>
 ((cStr row904 0).bind fun s905 =>
 ((cStr row904 1).bind fun s906 =>
 (bif ((x'3.length + [[D.str s905, D.str s906]].length) * 32).ble 140737488355328 then
 (bif (x'3.length + [[D.str s905, D.str s906]].length).ble 140737488355328 then (kn ((done, IntKind.i64.wrap (i + 1), x'3 ++ [[D.str s905, D.str s906]]))) else none) else none))))))))))))) else
 ((idx x' i).bind fun row907 =>
 (x'[i.toNat]?.bind fun row908 =>
 ((cStr row908 0).bind fun s909 =>
 ((cStr row908 1).bind fun s910 =>
 (bif ((x'3.length + [[D.str s909, D.str s910]].length) * 32).ble 140737488355328 then
 (bif (x'3.length + [[D.str s909, D.str s910]].length).ble 140737488355328 then (kn ((done, IntKind.i64.wrap (i + 1), x'3 ++ [[D.str s909, D.str s910]]))) else none) else none))))))))))) else (ke (.inr ((done, i, x'3))))
def M.spec_l48Put_l4_b (x' : List Row) (x'1 : List UInt8) (x'2 : List UInt8) (s : Bool × Int × List Row) := M.spec_l48Put_l4_C x' x'1 x'2 s (fun s => some (Sum.inl s)) fun t => some (Sum.inr t)
def M.spec_l48Put_l4 (x' : List Row) (x'1 : List UInt8) (x'2 : List UInt8) (s : Bool × Int × List Row) : Option ((Unit) ⊕ (Bool × Int × List Row)) := loopM (M.spec_l48Put_l4_b x' x'1 x'2) s
def F.spec_l48Put_l4 : LE X0 61 := le 4 (pSt [pAt 0 (pO 300000 0), pAt 3 (pP 300001 0), pAt 5 (pO 300002 0), pAt 6 pB, pAt 7 pI] [pAt 300000 (cA false true 0 2), pAt 300001 (cB 73 [pS, pS]), pAt 300002 (cA false true 0 2)]) (fun x => (x.1.2.2.2.1, x.1.2.2.2.2.1, x.2.2.2.1)) (fun x s => (((), (), (), s.1, s.2.1, ()), (x.2.1, (x.2.2.1.1, x.2.2.1.2.1, ()), s.2.2, ()))) (fun x => .sum (.leaf (Unit) (fun t => (Ex.ret, { tm := [(4, V.own 300000 0)], mem := [(300000, Cell.arr false true 0 2 x.2.1)] }))) (.leaf (Bool × Int × List Row) (fun t => (Ex.exit 0, { tm := [(0, V.own 300000 0), (3, V.ptr 300001 0), (5, V.own 300002 0), (6, V.d (D.bool t.fst)), (7, V.d (D.int IntKind.i64 t.snd.fst)), (12, V.d (D.bool false))], mem := [(300000, Cell.arr false true 0 2 x.2.1), (300001, Cell.box 73 [V.d (D.str x.2.2.1.1), V.d (D.str x.2.2.1.2.1)]), (300002, Cell.arr false true 0 2 t.snd.snd)] })))) (fun x => M.spec_l48Put_l4_C x.2.1 x.2.2.1.1 x.2.2.1.2.1) [] [] (by rintro _ _ ⟨_, _, _⟩ _ _ <;> simp only [M.spec_l48Put_l4_C, nb] <;> rfl)
def M.spec_l48Put_C {R : Type} (l : List Row) (e : List UInt8) (e1 : List UInt8) (k : List Row → Option R) : Option R :=
 (M.spec_l48Put_l4 l e e1 ((false, 0, []))).bind fun u913 =>
 sumE u913 (fun t911 => (bif flatRows l then (k l) else none)) fun u914 =>
 letE u914 fun t912 =>
 (bif !t912.fst then
 (bif ((t912.snd.snd.length + [[D.str e, D.str e1]].length) * 32).ble 140737488355328 then
 (bif (t912.snd.snd.length + [[D.str e, D.str e1]].length).ble 140737488355328 then
 (bif flatRows (t912.snd.snd ++ [[D.str e, D.str e1]]) then (k (t912.snd.snd ++ [[D.str e, D.str e1]])) else none) else none) else none) else (bif flatRows t912.snd.snd then (k t912.snd.snd) else none))
def M.spec_l48Put (l : List Row) (e : List UInt8) (e1 : List UInt8) : Option (List Row) := M.spec_l48Put_C l e e1 some
theorem C.spec_l48Put : S.spec_l48Put.ok X0 fun x => M.spec_l48Put x.1.1 x.1.2.1.1 x.1.2.1.2.1 := fnS (fun x => M.spec_l48Put_C x.1.1 x.1.2.1.1 x.1.2.1.2.1) [] [F.spec_l48Put_l4] (by intros; simp only [M.spec_l48Put_C, nb] <;> rfl)
def M.spec_CallsOf_l13_C {R : Type} (l : List Row) (kids : List Row) (k' : Int) (from' : List UInt8) (x'1 : List Row) (s : Int × List Row) (kn : Int × List Row → Option R) (ke : Int × List Row → Option R) : Option R := match s with
 | (i, x') =>
 bif decide (i < (↑x'1.length : Int)) then
 ((idx x'1 i).bind fun row872 =>
 (x'1[i.toNat]?.bind fun row873 =>
 ((cInt IntKind.i64 row873 0).bind fun n874 =>
 (bif n874 == 7 then
 ((idx x'1 i).bind fun row875 =>
 (x'1[i.toNat]?.bind fun row876 =>
 ((cStr row876 2).bind fun s877 =>
 (bif flatRows x' then ((M.spec_l48Put x' from' s877).bind fun r915 => (kn ((IntKind.i64.wrap (i + 1), r915)))) else none)))) else (kn ((IntKind.i64.wrap (i + 1), x'))))))) else (ke ((i, x')))
def M.spec_CallsOf_l13_b (l : List Row) (kids : List Row) (k' : Int) (from' : List UInt8) (x'1 : List Row) (s : Int × List Row) := M.spec_CallsOf_l13_C l kids k' from' x'1 s (fun s => some (Sum.inl s)) fun t => some (Sum.inr t)
def M.spec_CallsOf_l13 (l : List Row) (kids : List Row) (k' : Int) (from' : List UInt8) (x'1 : List Row) (s : Int × List Row) : Option (Int × List Row) := loopM (M.spec_CallsOf_l13_b l kids k' from' x'1) s
def F.spec_CallsOf_l13 : LE X0 20 := le 13 (pSt [pAt 0 (pL false 5), pAt 3 (pO 300000 0), pAt 4 (pL false 1), pAt 5 pI, pAt 6 pS, pAt 7 (pO 300001 0), pAt 8 pI] [pAt 300000 (cA false true 0 2), pAt 300001 (cA false false 0 5)]) (fun x => (x.1.2.2.2.2.2.2.1, x.2.1)) (fun x s => ((x.1.1, (), x.1.2.2.1, x.1.2.2.2.1, x.1.2.2.2.2.1, (), s.1, ()), (s.2, x.2.2.1, ()))) (fun x => .leaf (Int × List Row) (fun t => (Ex.exit 2, { tm := [(0, V.d (D.sl false 5 x.1.1)), (3, V.own 300000 0), (4, V.d (D.sl false 1 x.1.2.2.1)), (5, V.d (D.int IntKind.i64 x.1.2.2.2.1)), (6, V.d (D.str x.1.2.2.2.2.1)), (7, V.own 300001 0), (8, V.d (D.int IntKind.i64 t.fst)), (53, V.d (D.bool false))], mem := [(300000, Cell.arr false true 0 2 t.snd), (300001, Cell.arr false false 0 5 x.2.2.1)] }))) (fun x => M.spec_CallsOf_l13_C x.1.1 x.1.2.2.1 x.1.2.2.2.1 x.1.2.2.2.2.1 x.2.2.1) [fe C.spec_l48Put] [] (by rintro _ _ ⟨_, _⟩ _ _ <;> simp only [M.spec_CallsOf_l13_C, nb] <;> rfl)
def M.spec_CallsOf_l6_C {R : Type} (l : List Row) (kids : List Row) (s : Int × List Row) (kn : Int × List Row → Option R) (ke : Int × List Row → Option R) : Option R := match s with
 | (k', x') =>
 bif decide (k' < (↑kids.length : Int)) then
 ((idx kids k').bind fun row861 =>
 ((cInt IntKind.i64 row861 0).bind fun n862 =>
 ((idx l n862).bind fun row863 =>
 ((cInt IntKind.i64 row863 0).bind fun n864 =>
 (bif n864 == 44 then
 ((idx kids k').bind fun row865 =>
 ((cInt IntKind.i64 row865 0).bind fun n866 =>
 ((idx l n866).bind fun row867 =>
 ((cStr row867 2).bind fun s868 =>
 ((idx kids k').bind fun row869 =>
 ((cInt IntKind.i64 row869 0).bind fun n870 =>
 ((M.spec_l6Part l n870).bind fun r871 =>
 ((M.spec_CallsOf_l13 l kids k' s868 r871 ((0, x'))).bind fun t916 => (kn ((IntKind.i64.wrap (k' + 1), t916.snd))))))))))) else
 ((idx kids k').bind fun row917 =>
 ((cInt IntKind.i64 row917 0).bind fun n918 =>
 ((M.spec_l6Part l n918).bind fun r919 =>
 ((M.spec_CallsOf_l13 l kids k' [] r919 ((0, x'))).bind fun t920 => (kn ((IntKind.i64.wrap (k' + 1), t920.snd)))))))))))) else (ke ((k', x')))
def M.spec_CallsOf_l6_b (l : List Row) (kids : List Row) (s : Int × List Row) := M.spec_CallsOf_l6_C l kids s (fun s => some (Sum.inl s)) fun t => some (Sum.inr t)
def M.spec_CallsOf_l6 (l : List Row) (kids : List Row) (s : Int × List Row) : Option (Int × List Row) := loopM (M.spec_CallsOf_l6_b l kids) s
def F.spec_CallsOf_l6 : LE X0 20 := le 6 (pSt [pAt 0 (pL false 5), pAt 3 (pO 300000 0), pAt 4 (pL false 1), pAt 5 pI] [pAt 300000 (cA false true 0 2)]) (fun x => (x.1.2.2.2.1, x.2.1)) (fun x s => ((x.1.1, (), x.1.2.2.1, s.1, ()), (s.2, ()))) (fun x => .leaf (Int × List Row) (fun t => (Ex.exit 0, { tm := [(0, V.d (D.sl false 5 x.1.1)), (3, V.own 300000 0), (4, V.d (D.sl false 1 x.1.2.2.1)), (5, V.d (D.int IntKind.i64 t.fst)), (24, V.d (D.bool false))], mem := [(300000, Cell.arr false true 0 2 t.snd)] }))) (fun x => M.spec_CallsOf_l6_C x.1.1 x.1.2.2.1) [fe C.spec_l6Part] [F.spec_CallsOf_l13] (by rintro _ _ ⟨_, _⟩ _ _ <;> simp only [M.spec_CallsOf_l6_C, nb] <;> rfl)
def M.spec_CallsOf_C {R : Type} (l : List Row) (k : List Row → Option R) : Option R :=
 (M.spec_ProgramOk l).bind fun r858 =>
 (bif !r858 then (k []) else
 ((idx l (IntKind.i64.wrap ((↑l.length : Int) - 1))).bind fun row859 =>
 ((cSl 1 row859 4).bind fun rows860 =>
 ((M.spec_CallsOf_l6 l rows860 ((0, []))).bind fun t921 => (bif flatRows t921.snd then (k t921.snd) else none)))))
def M.spec_CallsOf (l : List Row) : Option (List Row) := M.spec_CallsOf_C l some
theorem C.spec_CallsOf : S.spec_CallsOf.ok X0 fun x => M.spec_CallsOf x.1.1 := fnS (fun x => M.spec_CallsOf_C x.1.1) [fe C.spec_ProgramOk] [F.spec_CallsOf_l6] (by intros; simp only [M.spec_CallsOf_C, nb] <;> rfl)
def M.impl_StartOf_C {R : Type} (l : List Row) (i : Int) (k : Int → Option R) : Option R :=
 (M.impl_startsOf l).bind fun r933 =>
 (bif !r933.snd then (k (-1)) else
 ((M.impl_within i 0 (IntKind.i64.wrap ((↑l.length : Int) - 1))).bind fun r934 =>
 (bif !r934 then (k (-1)) else
 ((idx r933.fst i).bind fun row935 =>
 (r933.fst[i.toNat]?.bind fun row936 => ((cInt IntKind.i64 row936 0).bind fun n937 => (k n937)))))))
def M.impl_StartOf (l : List Row) (i : Int) : Option (Int) := M.impl_StartOf_C l i some
theorem C.impl_StartOf : S.impl_StartOf.ok X0 fun x => M.impl_StartOf x.1.1 x.1.2.1 := fnS (fun x => M.impl_StartOf_C x.1.1 x.1.2.1) [fe C.impl_startsOf, fe C.impl_within] [] (by intros; simp only [M.impl_StartOf_C, nb] <;> rfl)
def M.impl_Part_C {R : Type} (l : List Row) (i : Int) (k : List Row → Option R) : Option R :=
 (M.impl_StartOf l i).bind fun r938 =>
 (bif decide (r938 < 0) then (k []) else
 ((M.impl_treeAt l i).bind fun r939 =>
 ((M.impl_tree_list r939.fst r939.snd.fst r939.snd.snd.fst r939.snd.snd.snd.fst (fzRows r939.snd.snd.snd.snd)).bind fun r940 => (bif [[D.sl true 5 r940]].all pureRow then (k r940) else none))))
def M.impl_Part (l : List Row) (i : Int) : Option (List Row) := M.impl_Part_C l i some
theorem C.impl_Part : S.impl_Part.ok X0 fun x => M.impl_Part x.1.1 x.1.2.1 := fnS (fun x => M.impl_Part_C x.1.1 x.1.2.1) [fe C.impl_StartOf, fe C.impl_treeAt, fe C.impl_tree_list] [] (by intros; simp only [M.impl_Part_C, nb] <;> rfl)
theorem C.slices_SortFunc : S.slices_SortFunc.ok X0 fun x => M.slices_SortFunc x.2.1 := Sig.prim (p := Prim.slices_SortFunc)
theorem C.slices_Compact : S.slices_Compact.ok X0 fun x => M.slices_Compact x.1.1 := Sig.prim (p := Prim.slices_Compact)
def M.impl_CallsOf_l11_C {R : Type} (l : List Row) (from' : List UInt8) (v20 : List Row) (v21 : Int) (v22 : Int) (v39 : List Row) (v40 : Int) (s : Int × List Row) (kn : Int × List Row → Option R) (ke : Int × List Row → Option R) : Option R := match s with
 | (v41, x') =>
 bif decide (v41 < v40) then
 ((idx v39 v41).bind fun row942 =>
 ((cInt IntKind.i64 row942 0).bind fun n943 =>
 ((cInt IntKind.i64 row942 1).bind fun n944 =>
 ((cStr row942 2).bind fun s945 =>
 ((cStr row942 3).bind fun s946 =>
 ((cSl 1 row942 4).bind fun rows947 =>
 (bif n943 == 7 then
 (bif ((x'.length + [[D.str from', D.str s945]].length) * 32).ble 140737488355328 then
 (bif (x'.length + [[D.str from', D.str s945]].length).ble 140737488355328 then (kn ((IntKind.i64.wrap (v41 + 1), x' ++ [[D.str from', D.str s945]]))) else none) else none) else (kn ((IntKind.i64.wrap (v41 + 1), x')))))))))) else (ke ((v41, x')))
def M.impl_CallsOf_l11_b (l : List Row) (from' : List UInt8) (v20 : List Row) (v21 : Int) (v22 : Int) (v39 : List Row) (v40 : Int) (s : Int × List Row) := M.impl_CallsOf_l11_C l from' v20 v21 v22 v39 v40 s (fun s => some (Sum.inl s)) fun t => some (Sum.inr t)
def M.impl_CallsOf_l11 (l : List Row) (from' : List UInt8) (v20 : List Row) (v21 : Int) (v22 : Int) (v39 : List Row) (v40 : Int) (s : Int × List Row) : Option (Int × List Row) := loopM (M.impl_CallsOf_l11_b l from' v20 v21 v22 v39 v40) s
def F.impl_CallsOf_l11 : LE X0 21 := le 11 (pSt [pAt 0 (pL false 5), pAt 3 (pO 300000 0), pAt 6 pS, pAt 20 (pL false 1), pAt 21 pI, pAt 22 pI, pAt 39 (pL false 5), pAt 40 pI, pAt 41 pI] [pAt 300000 (cA false true 0 2)]) (fun x => (x.1.2.2.2.2.2.2.2.2.1, x.2.1)) (fun x s => ((x.1.1, (), x.1.2.2.1, x.1.2.2.2.1, x.1.2.2.2.2.1, x.1.2.2.2.2.2.1, x.1.2.2.2.2.2.2.1, x.1.2.2.2.2.2.2.2.1, s.1, ()), (s.2, ()))) (fun x => .leaf (Int × List Row) (fun t => (Ex.exit 2, { tm := [(0, V.d (D.sl false 5 x.1.1)), (3, V.own 300000 0), (6, V.d (D.str x.1.2.2.1)), (20, V.d (D.sl false 1 x.1.2.2.2.1)), (21, V.d (D.int IntKind.i64 x.1.2.2.2.2.1)), (22, V.d (D.int IntKind.i64 x.1.2.2.2.2.2.1)), (39, V.d (D.sl false 5 x.1.2.2.2.2.2.2.1)), (40, V.d (D.int IntKind.i64 x.1.2.2.2.2.2.2.2.1)), (41, V.d (D.int IntKind.i64 t.fst)), (42, V.d (D.bool false))], mem := [(300000, Cell.arr false true 0 2 t.snd)] }))) (fun x => M.impl_CallsOf_l11_C x.1.1 x.1.2.2.1 x.1.2.2.2.1 x.1.2.2.2.2.1 x.1.2.2.2.2.2.1 x.1.2.2.2.2.2.2.1 x.1.2.2.2.2.2.2.2.1) [] [] (by rintro _ _ ⟨_, _⟩ _ _ <;> simp only [M.impl_CallsOf_l11_C, nb] <;> rfl)
def M.impl_CallsOf_l5_C {R : Type} (l : List Row) (v20 : List Row) (v21 : Int) (s : Int × List Row) (kn : Int × List Row → Option R) (ke : Int × List Row → Option R) : Option R := match s with
 | (v22, x') =>
 bif decide (v22 < v21) then
 ((idx v20 v22).bind fun row927 =>
 ((cInt IntKind.i64 row927 0).bind fun n928 =>
 ((idx l n928).bind fun row929 =>
 ((cInt IntKind.i64 row929 0).bind fun n930 =>
 (bif n930 == 44 then
 ((idx l n928).bind fun row931 =>
 ((cStr row931 2).bind fun s932 =>
 ((M.impl_Part l n928).bind fun r941 =>
 ((M.impl_CallsOf_l11 l s932 v20 v21 v22 (fzRows r941) ((↑(fzRows r941).length : Int)) ((0, x'))).bind fun t948 => (kn ((IntKind.i64.wrap (v22 + 1), t948.snd))))))) else
 ((M.impl_Part l n928).bind fun r949 =>
 ((M.impl_CallsOf_l11 l [] v20 v21 v22 (fzRows r949) ((↑(fzRows r949).length : Int)) ((0, x'))).bind fun t950 => (kn ((IntKind.i64.wrap (v22 + 1), t950.snd)))))))))) else (ke ((v22, x')))
def M.impl_CallsOf_l5_b (l : List Row) (v20 : List Row) (v21 : Int) (s : Int × List Row) := M.impl_CallsOf_l5_C l v20 v21 s (fun s => some (Sum.inl s)) fun t => some (Sum.inr t)
def M.impl_CallsOf_l5 (l : List Row) (v20 : List Row) (v21 : Int) (s : Int × List Row) : Option (Int × List Row) := loopM (M.impl_CallsOf_l5_b l v20 v21) s
def F.impl_CallsOf_l5 : LE X0 21 := le 5 (pSt [pAt 0 (pL false 5), pAt 3 (pO 300000 0), pAt 20 (pL false 1), pAt 21 pI, pAt 22 pI] [pAt 300000 (cA false true 0 2)]) (fun x => (x.1.2.2.2.2.1, x.2.1)) (fun x s => ((x.1.1, (), x.1.2.2.1, x.1.2.2.2.1, s.1, ()), (s.2, ()))) (fun x => .leaf (Int × List Row) (fun t => (Ex.exit 0, { tm := [(0, V.d (D.sl false 5 x.1.1)), (3, V.own 300000 0), (20, V.d (D.sl false 1 x.1.2.2.1)), (21, V.d (D.int IntKind.i64 x.1.2.2.2.1)), (22, V.d (D.int IntKind.i64 t.fst)), (23, V.d (D.bool false))], mem := [(300000, Cell.arr false true 0 2 t.snd)] }))) (fun x => M.impl_CallsOf_l5_C x.1.1 x.1.2.2.1 x.1.2.2.2.1) [fe C.impl_Part] [F.impl_CallsOf_l11] (by rintro _ _ ⟨_, _⟩ _ _ <;> simp only [M.impl_CallsOf_l5_C, nb] <;> rfl)
def M.impl_CallsOf_C {R : Type} (l : List Row) (k : List Row → Option R) : Option R :=
 (M.impl_ProgramOk l).bind fun r924 =>
 (bif !r924 then (k []) else
 ((idx l (IntKind.i64.wrap ((↑l.length : Int) - 1))).bind fun row925 =>
 ((cSl 1 row925 4).bind fun rows926 =>
 ((M.impl_CallsOf_l5 l rows926 ((↑rows926.length : Int)) ((0, []))).bind fun t951 =>
 ((M.slices_SortFunc t951.snd).bind fun r952 =>
 (bif flatRows r952 then ((M.slices_Compact r952).bind fun r953 => (bif flatRows r953 then (k r953) else none)) else none))))))
def M.impl_CallsOf (l : List Row) : Option (List Row) := M.impl_CallsOf_C l some
theorem C.impl_CallsOf : S.impl_CallsOf.ok X0 fun x => M.impl_CallsOf x.1.1 := fnS (fun x => M.impl_CallsOf_C x.1.1) [fe C.impl_ProgramOk, fe C.slices_SortFunc, fe C.slices_Compact] [F.impl_CallsOf_l5] (by intros; simp only [M.impl_CallsOf_C, nb] <;> rfl)
abbrev S.spec_l23Put : Sig := sg 70 [pL true 1, pS] [] (ρ := List Row) fun r => ([[D.sl true 1 r]], [])
abbrev S.spec_Reached : Sig := sg 69 [pL false 2, pS] [] (ρ := List Row) fun r => ([[D.sl true 1 r]], [])
abbrev S.spec_Recursive : Sig := sg 25 [pL false 5] [] (ρ := List Row) fun r => ([[D.sl true 1 r]], [])
abbrev S.slices_Sort : Sig := sg 103 [pO 100000 0] [cA false true 0 1] (ρ := List Row) fun r => ([], [Cell.arr false true 0 1 r])
abbrev S.slices_Compact_v1 : Sig := sg 104 [pL true 1] [] (ρ := List Row) fun r => ([[D.sl true 1 r]], [])
abbrev S.impl_once : Sig := sg 73 [pL true 1] [] (ρ := List Row) fun r => ([[D.sl true 1 r]], [])
abbrev S.impl_Reached : Sig := sg 72 [pL false 2, pS] [] (ρ := List Row) fun r => ([[D.sl true 1 r]], [])
abbrev S.impl_Recursive : Sig := sg 26 [pL false 5] [] (ρ := List Row) fun r => ([[D.sl true 1 r]], [])
abbrev S.laws_eqStringS : Sig := sg 27 [pL false 1, pL false 1] [] (ρ := Bool) fun r => ([[D.bool r]], [])
abbrev S.laws_markStringS : Sig := sg 28 [pO 100000 0, pI] [cA false true 0 1] (ρ := Int × List Row) fun r => ([[D.int IntKind.i64 r.fst]], [Cell.arr false true 0 1 r.snd])
abbrev S.laws_heldStringS : Sig := sg 29 [pL false 1, pI] [] (ρ := Int) fun r => ([[D.int IntKind.i64 r]], [])
abbrev S.laws_FnExactRecursive : Sig := sg 7 [pL false 5] [] (ρ := Bool) fun r => ([[D.bool r]], [])
def M.spec_l23Put_l4_C {R : Type} (s' : List UInt8) (x' : List Row) (s : Bool × Int × List Row) (kn : Bool × Int × List Row → Option R) (ke : (Unit) ⊕ (Bool × Int × List Row) → Option R) : Option R := match s with
 | (done, i, x'1) =>
 bif decide (i < (↑x'.length : Int)) then
 ((idx x' i).bind fun row1007 =>
 (x'[i.toNat]?.bind fun row1008 =>
 ((cStr row1008 0).bind fun s1009 =>
 (bif s1009 == s' then (ke (.inl ())) else
 (bif !done then
 ((idx x' i).bind fun row1010 =>
 (x'[i.toNat]?.bind fun row1011 =>
 ((cStr row1011 0).bind fun s1012 =>
 (bif !(Op.bytesLess s1012 s' || s1012 == s') then
 (bif ((x'1.length + [[D.str s']].length) * 16).ble 140737488355328 then
 (bif (x'1.length + [[D.str s']].length).ble 140737488355328 then
 ((idx x' i).bind fun row1013 =>
 (x'[i.toNat]?.bind fun row1014 =>
 ((cStr row1014 0).bind fun s1015 =>
 (bif (((x'1 ++ [[D.str s']]).length + [[D.str s1015]].length) * 16).ble 140737488355328 then
 (bif ((x'1 ++ [[D.str s']]).length + [[D.str s1015]].length).ble 140737488355328 then (kn ((true, IntKind.i64.wrap (i + 1), x'1 ++ [[D.str s']] ++ [[D.str s1015]]))) else none) else none)))) else none) else none) else
 ((idx x' i).bind fun row1016 =>
 (x'[i.toNat]?.bind fun row1017 =>
 ((cStr row1017 0).bind fun s1018 =>
 (bif ((x'1.length + [[D.str s1018]].length) * 16).ble 140737488355328 then
 (bif (x'1.length + [[D.str s1018]].length).ble 140737488355328 then (kn ((done, IntKind.i64.wrap (i + 1), x'1 ++ [[D.str s1018]]))) else none) else none)))))))) else
 ((idx x' i).bind fun row1019 =>
 (x'[i.toNat]?.bind fun row1020 =>
 ((cStr row1020 0).bind fun s1021 =>
 (bif ((x'1.length + [[D.str s1021]].length) * 16).ble 140737488355328 then
 (bif (x'1.length + [[D.str s1021]].length).ble 140737488355328 then (kn ((done, IntKind.i64.wrap (i + 1), x'1 ++ [[D.str s1021]]))) else none) else none))))))))) else (ke (.inr ((done, i, x'1))))
def M.spec_l23Put_l4_b (s' : List UInt8) (x' : List Row) (s : Bool × Int × List Row) := M.spec_l23Put_l4_C s' x' s (fun s => some (Sum.inl s)) fun t => some (Sum.inr t)
def M.spec_l23Put_l4 (s' : List UInt8) (x' : List Row) (s : Bool × Int × List Row) : Option ((Unit) ⊕ (Bool × Int × List Row)) := loopM (M.spec_l23Put_l4_b s' x') s
def F.spec_l23Put_l4 : LE X0 70 := le 4 (pSt [pAt 0 (pO 300000 0), pAt 1 pS, pAt 5 (pO 300001 0), pAt 6 pB, pAt 7 pI] [pAt 300000 (cA false true 0 1), pAt 300001 (cA false true 0 1)]) (fun x => (x.1.2.2.2.1, x.1.2.2.2.2.1, x.2.2.1)) (fun x s => (((), x.1.2.1, (), s.1, s.2.1, ()), (x.2.1, s.2.2, ()))) (fun x => .sum (.leaf (Unit) (fun t => (Ex.ret, { tm := [(4, V.own 300000 0)], mem := [(300000, Cell.arr false true 0 1 x.2.1)] }))) (.leaf (Bool × Int × List Row) (fun t => (Ex.exit 0, { tm := [(0, V.own 300000 0), (1, V.d (D.str x.1.2.1)), (5, V.own 300001 0), (6, V.d (D.bool t.fst)), (7, V.d (D.int IntKind.i64 t.snd.fst)), (12, V.d (D.bool false))], mem := [(300000, Cell.arr false true 0 1 x.2.1), (300001, Cell.arr false true 0 1 t.snd.snd)] })))) (fun x => M.spec_l23Put_l4_C x.1.2.1 x.2.1) [] [] (by rintro _ _ ⟨_, _, _⟩ _ _ <;> simp only [M.spec_l23Put_l4_C, nb] <;> rfl)
def M.spec_l23Put_C {R : Type} (l : List Row) (s' : List UInt8) (k : List Row → Option R) : Option R :=
 (M.spec_l23Put_l4 s' l ((false, 0, []))).bind fun u1024 =>
 sumE u1024 (fun t1022 => (bif flatRows l then (k l) else none)) fun u1025 =>
 letE u1025 fun t1023 =>
 (bif !t1023.fst then
 (bif ((t1023.snd.snd.length + [[D.str s']].length) * 16).ble 140737488355328 then
 (bif (t1023.snd.snd.length + [[D.str s']].length).ble 140737488355328 then
 (bif flatRows (t1023.snd.snd ++ [[D.str s']]) then (k (t1023.snd.snd ++ [[D.str s']])) else none) else none) else none) else (bif flatRows t1023.snd.snd then (k t1023.snd.snd) else none))
def M.spec_l23Put (l : List Row) (s' : List UInt8) : Option (List Row) := M.spec_l23Put_C l s' some
theorem C.spec_l23Put : S.spec_l23Put.ok X0 fun x => M.spec_l23Put x.1.1 x.1.2.1 := fnS (fun x => M.spec_l23Put_C x.1.1 x.1.2.1) [] [F.spec_l23Put_l4] (by intros; simp only [M.spec_l23Put_C, nb] <;> rfl)
def M.spec_Reached_l6_C {R : Type} (l : List Row) (from' : List UInt8) (n' : Int) (s : Int × List Row) (kn : Int × List Row → Option R) (ke : Int × List Row → Option R) : Option R := match s with
 | (i, x') =>
 bif decide (i < (↑l.length : Int)) then
 ((idx l i).bind fun row1003 =>
 ((cStr row1003 0).bind fun s1004 =>
 (bif s1004 == from' then
 ((idx l i).bind fun row1005 =>
 ((cStr row1005 1).bind fun s1006 =>
 (bif flatRows x' then ((M.spec_l23Put x' s1006).bind fun r1026 => (kn ((IntKind.i64.wrap (i + 1), r1026)))) else none))) else
 ((idx l i).bind fun row1027 =>
 ((cStr row1027 0).bind fun s1028 =>
 ((M.spec_l3Find x' s1028).bind fun r1029 =>
 (bif decide (r1029 ≥ 0) then
 ((idx l i).bind fun row1030 =>
 ((cStr row1030 1).bind fun s1031 =>
 (bif flatRows x' then ((M.spec_l23Put x' s1031).bind fun r1032 => (kn ((IntKind.i64.wrap (i + 1), r1032)))) else none))) else (kn ((IntKind.i64.wrap (i + 1), x')))))))))) else (ke ((i, x')))
def M.spec_Reached_l6_b (l : List Row) (from' : List UInt8) (n' : Int) (s : Int × List Row) := M.spec_Reached_l6_C l from' n' s (fun s => some (Sum.inl s)) fun t => some (Sum.inr t)
def M.spec_Reached_l6 (l : List Row) (from' : List UInt8) (n' : Int) (s : Int × List Row) : Option (Int × List Row) := loopM (M.spec_Reached_l6_b l from' n') s
def F.spec_Reached_l6 : LE X0 69 := le 6 (pSt [pAt 0 (pL false 2), pAt 1 pS, pAt 5 (pO 300000 0), pAt 6 pI, pAt 7 pI] [pAt 300000 (cA false true 0 1)]) (fun x => (x.1.2.2.2.2.1, x.2.1)) (fun x s => ((x.1.1, x.1.2.1, (), x.1.2.2.2.1, s.1, ()), (s.2, ()))) (fun x => .leaf (Int × List Row) (fun t => (Ex.exit 2, { tm := [(0, V.d (D.sl false 2 x.1.1)), (1, V.d (D.str x.1.2.1)), (5, V.own 300000 0), (6, V.d (D.int IntKind.i64 x.1.2.2.2.1)), (7, V.d (D.int IntKind.i64 t.fst)), (18, V.d (D.bool false))], mem := [(300000, Cell.arr false true 0 1 t.snd)] }))) (fun x => M.spec_Reached_l6_C x.1.1 x.1.2.1 x.1.2.2.2.1) [fe C.spec_l23Put, fe C.spec_l3Find] [] (by rintro _ _ ⟨_, _⟩ _ _ <;> simp only [M.spec_Reached_l6_C, nb] <;> rfl)
def M.spec_Reached_l3_C {R : Type} (l : List Row) (from' : List UInt8) (s : Int × List Row) (kn : Int × List Row → Option R) (ke : Int × List Row → Option R) : Option R := match s with
 | (n', x') =>
 bif decide (n' ≤ (↑l.length : Int)) then
 ((M.spec_Reached_l6 l from' n' ((0, x'))).bind fun t1033 => (kn ((IntKind.i64.wrap (n' + 1), t1033.snd)))) else (ke ((n', x')))
def M.spec_Reached_l3_b (l : List Row) (from' : List UInt8) (s : Int × List Row) := M.spec_Reached_l3_C l from' s (fun s => some (Sum.inl s)) fun t => some (Sum.inr t)
def M.spec_Reached_l3 (l : List Row) (from' : List UInt8) (s : Int × List Row) : Option (Int × List Row) := loopM (M.spec_Reached_l3_b l from') s
def F.spec_Reached_l3 : LE X0 69 := le 3 (pSt [pAt 0 (pL false 2), pAt 1 pS, pAt 5 (pO 300000 0), pAt 6 pI] [pAt 300000 (cA false true 0 1)]) (fun x => (x.1.2.2.2.1, x.2.1)) (fun x s => ((x.1.1, x.1.2.1, (), s.1, ()), (s.2, ()))) (fun x => .leaf (Int × List Row) (fun t => (Ex.exit 0, { tm := [(0, V.d (D.sl false 2 x.1.1)), (1, V.d (D.str x.1.2.1)), (5, V.own 300000 0), (6, V.d (D.int IntKind.i64 t.fst)), (12, V.d (D.bool false))], mem := [(300000, Cell.arr false true 0 1 t.snd)] }))) (fun x => M.spec_Reached_l3_C x.1.1 x.1.2.1) [] [F.spec_Reached_l6] (by rintro _ _ ⟨_, _⟩ _ _ <;> simp only [M.spec_Reached_l3_C, nb] <;> rfl)
def M.spec_Reached_C {R : Type} (l : List Row) (from' : List UInt8) (k : List Row → Option R) : Option R :=
 (M.spec_Reached_l3 l from' ((0, []))).bind fun t1034 => (bif flatRows t1034.snd then (k t1034.snd) else none)
def M.spec_Reached (l : List Row) (from' : List UInt8) : Option (List Row) := M.spec_Reached_C l from' some
theorem C.spec_Reached : S.spec_Reached.ok X0 fun x => M.spec_Reached x.1.1 x.1.2.1 := fnS (fun x => M.spec_Reached_C x.1.1 x.1.2.1) [] [F.spec_Reached_l3] (by intros; simp only [M.spec_Reached_C, nb] <;> rfl)
def M.spec_Recursive_l4_C {R : Type} (x'1 : List Row) (s : Int × List Row) (kn : Int × List Row → Option R) (ke : Int × List Row → Option R) : Option R := match s with
 | (i, x') =>
 bif decide (i < (↑x'1.length : Int)) then
 ((idx x'1 i).bind fun row997 =>
 (x'1[i.toNat]?.bind fun row998 =>
 ((cStr row998 0).bind fun s999 =>
 (bif !s999 == [] then
 ((idx x'1 i).bind fun row1000 =>
 (x'1[i.toNat]?.bind fun row1001 =>
 ((cStr row1001 0).bind fun s1002 =>
 ((M.spec_Reached x'1 s1002).bind fun r1035 =>
 (bif [[D.sl true 1 r1035]].all pureRow then
 ((idx x'1 i).bind fun row1036 =>
 (x'1[i.toNat]?.bind fun row1037 =>
 ((cStr row1037 0).bind fun s1038 =>
 ((M.spec_l3Find r1035 s1038).bind fun r1039 =>
 (bif decide (r1039 ≥ 0) then
 ((idx x'1 i).bind fun row1040 =>
 (x'1[i.toNat]?.bind fun row1041 =>
 ((cStr row1041 0).bind fun s1042 =>
 (bif flatRows x' then ((M.spec_l23Put x' s1042).bind fun r1043 => (kn ((IntKind.i64.wrap (i + 1), r1043)))) else none)))) else (kn ((IntKind.i64.wrap (i + 1), x')))))))) else none))))) else (kn ((IntKind.i64.wrap (i + 1), x'))))))) else (ke ((i, x')))
def M.spec_Recursive_l4_b (x'1 : List Row) (s : Int × List Row) := M.spec_Recursive_l4_C x'1 s (fun s => some (Sum.inl s)) fun t => some (Sum.inr t)
def M.spec_Recursive_l4 (x'1 : List Row) (s : Int × List Row) : Option (Int × List Row) := loopM (M.spec_Recursive_l4_b x'1) s
def F.spec_Recursive_l4 : LE X0 25 := le 4 (pSt [pAt 3 (pO 300000 0), pAt 4 (pO 300001 0), pAt 5 pI] [pAt 300000 (cA false true 0 1), pAt 300001 (cA false true 0 2)]) (fun x => (x.1.2.2.1, x.2.1)) (fun x s => (((), (), s.1, ()), (s.2, x.2.2.1, ()))) (fun x => .leaf (Int × List Row) (fun t => (Ex.exit 0, { tm := [(3, V.own 300000 0), (4, V.own 300001 0), (5, V.d (D.int IntKind.i64 t.fst)), (12, V.d (D.bool false))], mem := [(300000, Cell.arr false true 0 1 t.snd), (300001, Cell.arr false true 0 2 x.2.2.1)] }))) (fun x => M.spec_Recursive_l4_C x.2.2.1) [fe C.spec_Reached, fe C.spec_l3Find, fe C.spec_l23Put] [] (by rintro _ _ ⟨_, _⟩ _ _ <;> simp only [M.spec_Recursive_l4_C, nb] <;> rfl)
def M.spec_Recursive_C {R : Type} (l : List Row) (k : List Row → Option R) : Option R :=
 (M.spec_CallsOf l).bind fun r996 =>
 ((M.spec_Recursive_l4 r996 ((0, []))).bind fun t1044 => (bif flatRows t1044.snd then (k t1044.snd) else none))
def M.spec_Recursive (l : List Row) : Option (List Row) := M.spec_Recursive_C l some
theorem C.spec_Recursive : S.spec_Recursive.ok X0 fun x => M.spec_Recursive x.1.1 := fnS (fun x => M.spec_Recursive_C x.1.1) [fe C.spec_CallsOf] [F.spec_Recursive_l4] (by intros; simp only [M.spec_Recursive_C, nb] <;> rfl)
theorem C.slices_Sort : S.slices_Sort.ok X0 fun x => M.slices_Sort x.2.1 := Sig.prim (p := Prim.slices_Sort)
theorem C.slices_Compact_v1 : S.slices_Compact_v1.ok X0 fun x => M.slices_Compact_v1 x.1.1 := Sig.prim (p := Prim.slices_Compact_v1)
def M.impl_once_C {R : Type} (list : List Row) (k : List Row → Option R) : Option R :=
 (M.slices_Sort list).bind fun r1065 =>
 (bif flatRows r1065 then
 ((M.slices_Compact_v1 r1065).bind fun r1066 => (bif flatRows r1066 then (k r1066) else none)) else none)
def M.impl_once (list : List Row) : Option (List Row) := M.impl_once_C list some
theorem C.impl_once : S.impl_once.ok X0 fun x => M.impl_once x.1.1 := fnS (fun x => M.impl_once_C x.1.1) [fe C.slices_Sort, fe C.slices_Compact_v1] [] (by intros; simp only [M.impl_once_C, nb] <;> rfl)
def M.impl_Reached_l6_C {R : Type} (l : List Row) (at' : List UInt8) (v21 : List Row) (v22 : Int) (s : Int × List Row × List Row) (kn : Int × List Row × List Row → Option R) (ke : Int × List Row × List Row → Option R) : Option R := match s with
 | (v23, x', x'1) =>
 bif decide (v23 < v22) then
 ((idx v21 v23).bind fun row1055 =>
 ((cStr row1055 0).bind fun s1056 =>
 ((cStr row1055 1).bind fun s1057 =>
 (bif s1056 == at' then
 ((M.slices_Contains x' s1057).bind fun r1058 =>
 (bif !r1058 then
 (bif ((x'.length + [[D.str s1057]].length) * 16).ble 140737488355328 then
 (bif (x'.length + [[D.str s1057]].length).ble 140737488355328 then
 (bif ((x'1.length + [[D.str s1057]].length) * 16).ble 140737488355328 then
 (bif (x'1.length + [[D.str s1057]].length).ble 140737488355328 then (kn ((IntKind.i64.wrap (v23 + 1), x' ++ [[D.str s1057]], x'1 ++ [[D.str s1057]]))) else none) else none) else none) else none) else (kn ((IntKind.i64.wrap (v23 + 1), x', x'1))))) else (kn ((IntKind.i64.wrap (v23 + 1), x', x'1))))))) else (ke ((v23, x', x'1)))
def M.impl_Reached_l6_b (l : List Row) (at' : List UInt8) (v21 : List Row) (v22 : Int) (s : Int × List Row × List Row) := M.impl_Reached_l6_C l at' v21 v22 s (fun s => some (Sum.inl s)) fun t => some (Sum.inr t)
def M.impl_Reached_l6 (l : List Row) (at' : List UInt8) (v21 : List Row) (v22 : Int) (s : Int × List Row × List Row) : Option (Int × List Row × List Row) := loopM (M.impl_Reached_l6_b l at' v21 v22) s
def F.impl_Reached_l6 : LE X0 72 := le 6 (pSt [pAt 0 (pL false 2), pAt 5 (pO 300000 0), pAt 6 (pO 300001 0), pAt 7 pS, pAt 21 (pL false 2), pAt 22 pI, pAt 23 pI] [pAt 300000 (cA false true 0 1), pAt 300001 (cQ 0 1)]) (fun x => (x.1.2.2.2.2.2.2.1, x.2.1, x.2.2.1)) (fun x s => ((x.1.1, (), (), x.1.2.2.2.1, x.1.2.2.2.2.1, x.1.2.2.2.2.2.1, s.1, ()), (s.2.1, s.2.2, ()))) (fun x => .leaf (Int × List Row × List Row) (fun t => (Ex.exit 2, { tm := [(0, V.d (D.sl false 2 x.1.1)), (5, V.own 300000 0), (6, V.own 300001 0), (7, V.d (D.str x.1.2.2.2.1)), (21, V.d (D.sl false 2 x.1.2.2.2.2.1)), (22, V.d (D.int IntKind.i64 x.1.2.2.2.2.2.1)), (23, V.d (D.int IntKind.i64 t.fst)), (24, V.d (D.bool false))], mem := [(300000, Cell.arr false true 0 1 t.snd.fst), (300001, Cell.que 0 1 t.snd.snd)] }))) (fun x => M.impl_Reached_l6_C x.1.1 x.1.2.2.2.1 x.1.2.2.2.2.1 x.1.2.2.2.2.2.1) [fe C.slices_Contains] [] (by rintro _ _ ⟨_, _, _⟩ _ _ <;> simp only [M.impl_Reached_l6_C, nb] <;> rfl)
def M.impl_Reached_l2_C {R : Type} (s : (List Row × List Row × List Row) ⊕ (List Row × List UInt8 × List Row × Int × Int × Bool × List Row × List Row)) (kn : (List Row × List Row × List Row) ⊕ (List Row × List UInt8 × List Row × Int × Int × Bool × List Row × List Row) → Option R) (ke : (List Row × List Row × List Row) ⊕ (List Row × List Row × List Row) → Option R) : Option R := match s with
 | .inl ((l, x', x'1)) =>
 bif decide ((↑x'1.length : Int) > 0) then
 ((idx x'1 0).bind fun row1052 =>
 (x'1[0]?.bind fun row1053 =>
 ((cStr row1053 0).bind fun s1054 =>
 (bif true && decide (1 ≤ (↑x'1.length : Int)) then
 ((M.impl_Reached_l6 l s1054 l ((↑l.length : Int)) ((0, x', List.drop 1 x'1))).bind fun t1059 =>
 (kn (.inr ((l, s1054, l, (↑l.length : Int), t1059.fst, false, t1059.snd.fst, t1059.snd.snd))))) else none)))) else (ke (.inl ((l, x', x'1))))
 | .inr ((l, at', v21, v22, v23, v24, x', x'1)) =>
 bif decide ((↑x'1.length : Int) > 0) then
 ((idx x'1 0).bind fun row1060 =>
 (x'1[0]?.bind fun row1061 =>
 ((cStr row1061 0).bind fun s1062 =>
 (bif true && decide (1 ≤ (↑x'1.length : Int)) then
 ((M.impl_Reached_l6 l s1062 l ((↑l.length : Int)) ((0, x', List.drop 1 x'1))).bind fun t1063 =>
 (kn (.inr ((l, s1062, l, (↑l.length : Int), t1063.fst, false, t1063.snd.fst, t1063.snd.snd))))) else none)))) else (ke (.inr ((l, x', x'1))))
def M.impl_Reached_l2_b (s : (List Row × List Row × List Row) ⊕ (List Row × List UInt8 × List Row × Int × Int × Bool × List Row × List Row)) := M.impl_Reached_l2_C s (fun s => some (Sum.inl s)) fun t => some (Sum.inr t)
def M.impl_Reached_l2 (s : (List Row × List Row × List Row) ⊕ (List Row × List UInt8 × List Row × Int × Int × Bool × List Row × List Row)) : Option ((List Row × List Row × List Row) ⊕ (List Row × List Row × List Row)) := loopM (M.impl_Reached_l2_b) s
def F.impl_Reached_l2 : LE X0 72 := le 2 (pOr (pSt [pAt 0 (pL false 2), pAt 5 (pO 300000 0), pAt 6 (pO 300001 0)] [pAt 300000 (cA false true 0 1), pAt 300001 (cA false true 0 1)]) (pSt [pAt 0 (pL false 2), pAt 5 (pO 300000 0), pAt 6 (pO 300001 0), pAt 7 pS, pAt 21 (pL false 2), pAt 22 pI, pAt 23 pI, pAt 24 pB] [pAt 300000 (cA false true 0 1), pAt 300001 (cQ 0 1)])) (σ := (List Row × List Row × List Row) ⊕ (List Row × List UInt8 × List Row × Int × Int × Bool × List Row × List Row)) (fun x => (match x with | .inl x => .inl ((x.1.1, x.2.1, x.2.2.1)) | .inr x => .inr ((x.1.1, x.1.2.2.2.1, x.1.2.2.2.2.1, x.1.2.2.2.2.2.1, x.1.2.2.2.2.2.2.1, x.1.2.2.2.2.2.2.2.1, x.2.1, x.2.2.1)))) (fun x s => (match s with | .inl s => .inl (((s.1, (), (), ()), (s.2.1, s.2.2, ()))) | .inr s => .inr (((s.1, (), (), s.2.1, s.2.2.1, s.2.2.2.1, s.2.2.2.2.1, s.2.2.2.2.2.1, ()), (s.2.2.2.2.2.2.1, s.2.2.2.2.2.2.2, ()))))) (fun x => .sum (.leaf (List Row × List Row × List Row) (fun t => (Ex.exit 0, { tm := [(0, V.d (D.sl false 2 t.fst)), (5, V.own 300000 0), (6, V.own 300001 0), (15, V.d (D.bool false))], mem := [(300000, Cell.arr false true 0 1 t.snd.fst), (300001, Cell.arr false true 0 1 t.snd.snd)] }))) (.leaf (List Row × List Row × List Row) (fun t => (Ex.exit 0, { tm := [(0, V.d (D.sl false 2 t.fst)), (5, V.own 300000 0), (6, V.own 300001 0), (15, V.d (D.bool false))], mem := [(300000, Cell.arr false true 0 1 t.snd.fst), (300001, Cell.que 0 1 t.snd.snd)] })))) (fun x => M.impl_Reached_l2_C) [] [F.impl_Reached_l6] (by rintro _ _ (⟨_, _, _⟩ | ⟨_, _, _, _, _, _, _, _⟩) _ _ <;> simp only [M.impl_Reached_l2_C, nb] <;> rfl) (hE := by intro _ _ s _; rcases s with s | s <;> kernel_rfl)
def M.impl_Reached_C {R : Type} (l : List Row) (from' : List UInt8) (k : List Row → Option R) : Option R :=
 (M.impl_Reached_l2 (.inl ((l, [], [[D.str from']])))).bind fun u1070 =>
 sumE u1070 (fun t1064 =>
 (bif flatRows t1064.snd.fst then
 ((M.impl_once t1064.snd.fst).bind fun r1067 => (bif flatRows r1067 then (k r1067) else none)) else none)) fun u1071 =>
 letE u1071 fun t1068 =>
 (bif flatRows t1068.snd.fst then
 ((M.impl_once t1068.snd.fst).bind fun r1069 => (bif flatRows r1069 then (k r1069) else none)) else none)
def M.impl_Reached (l : List Row) (from' : List UInt8) : Option (List Row) := M.impl_Reached_C l from' some
theorem C.impl_Reached : S.impl_Reached.ok X0 fun x => M.impl_Reached x.1.1 x.1.2.1 := fnS (fun x => M.impl_Reached_C x.1.1 x.1.2.1) [fe C.impl_once] [F.impl_Reached_l2] (by intros; simp only [M.impl_Reached_C, nb] <;> rfl)
def M.impl_Recursive_l3_C {R : Type} (v11 : Int) (x'1 : List Row) (s : Int × List Row) (kn : Int × List Row → Option R) (ke : Int × List Row → Option R) : Option R := match s with
 | (v12, x') =>
 bif decide (v12 < v11) then
 ((idx x'1 v12).bind fun row1048 =>
 (x'1[v12.toNat]?.bind fun row1049 =>
 ((cStr row1049 0).bind fun s1050 =>
 ((cStr row1049 1).bind fun s1051 =>
 (bif !s1050 == [] then
 ((M.impl_Reached x'1 s1050).bind fun r1072 =>
 (bif [[D.sl true 1 r1072]].all pureRow then
 ((M.slices_Contains r1072 s1050).bind fun r1073 =>
 (bif r1073 then
 (bif ((x'.length + [[D.str s1050]].length) * 16).ble 140737488355328 then
 (bif (x'.length + [[D.str s1050]].length).ble 140737488355328 then (kn ((IntKind.i64.wrap (v12 + 1), x' ++ [[D.str s1050]]))) else none) else none) else (kn ((IntKind.i64.wrap (v12 + 1), x'))))) else none)) else (kn ((IntKind.i64.wrap (v12 + 1), x')))))))) else (ke ((v12, x')))
def M.impl_Recursive_l3_b (v11 : Int) (x'1 : List Row) (s : Int × List Row) := M.impl_Recursive_l3_C v11 x'1 s (fun s => some (Sum.inl s)) fun t => some (Sum.inr t)
def M.impl_Recursive_l3 (v11 : Int) (x'1 : List Row) (s : Int × List Row) : Option (Int × List Row) := loopM (M.impl_Recursive_l3_b v11 x'1) s
def F.impl_Recursive_l3 : LE X0 26 := le 3 (pSt [pAt 3 (pO 300000 0), pAt 4 (pO 300001 0), pAt 10 (pO 300001 0), pAt 11 pI, pAt 12 pI] [pAt 300000 (cA false true 0 1), pAt 300001 (cA false true 0 2)]) (fun x => (x.1.2.2.2.2.1, x.2.1)) (fun x s => (((), (), (), x.1.2.2.2.1, s.1, ()), (s.2, x.2.2.1, ()))) (fun x => .leaf (Int × List Row) (fun t => (Ex.exit 0, { tm := [(3, V.own 300000 0), (4, V.own 300001 0), (10, V.own 300001 0), (11, V.d (D.int IntKind.i64 x.1.2.2.2.1)), (12, V.d (D.int IntKind.i64 t.fst)), (13, V.d (D.bool false))], mem := [(300000, Cell.arr false true 0 1 t.snd), (300001, Cell.arr false true 0 2 x.2.2.1)] }))) (fun x => M.impl_Recursive_l3_C x.1.2.2.2.1 x.2.2.1) [fe C.impl_Reached, fe C.slices_Contains] [] (by rintro _ _ ⟨_, _⟩ _ _ <;> simp only [M.impl_Recursive_l3_C, nb] <;> rfl)
def M.impl_Recursive_C {R : Type} (l : List Row) (k : List Row → Option R) : Option R :=
 (M.impl_CallsOf l).bind fun r1047 =>
 ((M.impl_Recursive_l3 ((↑r1047.length : Int)) r1047 ((0, []))).bind fun t1074 =>
 (bif flatRows t1074.snd then ((M.impl_once t1074.snd).bind fun r1075 => (bif flatRows r1075 then (k r1075) else none)) else none))
def M.impl_Recursive (l : List Row) : Option (List Row) := M.impl_Recursive_C l some
theorem C.impl_Recursive : S.impl_Recursive.ok X0 fun x => M.impl_Recursive x.1.1 := fnS (fun x => M.impl_Recursive_C x.1.1) [fe C.impl_CallsOf, fe C.impl_once] [F.impl_Recursive_l3] (by intros; simp only [M.impl_Recursive_C, nb] <;> rfl)
def M.laws_eqStringS_l4_C {R : Type} (a : List Row) (b : List Row) (s : Int) (kn : Int → Option R) (ke : (Unit) ⊕ (Int) → Option R) : Option R := match s with
 | i =>
 bif decide (i < (↑a.length : Int)) then
 ((idx a i).bind fun row1077 =>
 ((cStr row1077 0).bind fun s1078 =>
 ((idx b i).bind fun row1079 =>
 ((cStr row1079 0).bind fun s1080 => (bif !s1078 == s1080 then (ke (.inl ())) else (kn (IntKind.i64.wrap (i + 1)))))))) else (ke (.inr i))
def M.laws_eqStringS_l4_b (a : List Row) (b : List Row) (s : Int) := M.laws_eqStringS_l4_C a b s (fun s => some (Sum.inl s)) fun t => some (Sum.inr t)
def M.laws_eqStringS_l4 (a : List Row) (b : List Row) (s : Int) : Option ((Unit) ⊕ (Int)) := loopM (M.laws_eqStringS_l4_b a b) s
def F.laws_eqStringS_l4 : LE X0 27 := le 4 (pSt [pAt 0 (pL false 1), pAt 1 (pL false 1), pAt 5 pI] []) (fun x => x.1.2.2.1) (fun x s => ((x.1.1, x.1.2.1, s, ()), ())) (fun x => .sum (.leaf (Unit) (fun t => (Ex.ret, { tm := [(4, V.d (D.bool false))], mem := [] }))) (.leaf (Int) (fun t => (Ex.exit 0, { tm := [(0, V.d (D.sl false 1 x.1.1)), (1, V.d (D.sl false 1 x.1.2.1)), (5, V.d (D.int IntKind.i64 t)), (14, V.d (D.bool false))], mem := [] })))) (fun x => M.laws_eqStringS_l4_C x.1.1 x.1.2.1) [] [] (by rintro _ _ _ _ _ <;> simp only [M.laws_eqStringS_l4_C, nb] <;> rfl)
def M.laws_eqStringS_C {R : Type} (a : List Row) (b : List Row) (k : Bool → Option R) : Option R :=
 bif (↑a.length : Int) != (↑b.length : Int) then (k false) else
 ((M.laws_eqStringS_l4 a b 0).bind fun u1083 =>
 sumE u1083 (fun t1081 => (k false)) fun u1084 =>
 letE u1084 fun t1082 => (k true))
def M.laws_eqStringS (a : List Row) (b : List Row) : Option (Bool) := M.laws_eqStringS_C a b some
theorem C.laws_eqStringS : S.laws_eqStringS.ok X0 fun x => M.laws_eqStringS x.1.1 x.1.2.1 := fnS (fun x => M.laws_eqStringS_C x.1.1 x.1.2.1) [] [F.laws_eqStringS_l4] (by intros; simp only [M.laws_eqStringS_C, nb] <;> rfl)
def M.laws_markStringS_l2_C {R : Type} (s : Int × Int × List Row) (kn : Int × Int × List Row → Option R) (ke : Int × Int × List Row → Option R) : Option R := match s with
 | (k', i, v) =>
 bif decide (i < (↑v.length : Int)) then
 ((M.laws_markText k').bind fun r1090 =>
 ((idx v i).bind fun row1091 =>
 (v[i.toNat]?.bind fun row1092 =>
 (kn ((IntKind.i64.wrap (k' + 1), IntKind.i64.wrap (i + 1), v.set i.toNat (splice row1092 0 [D.str r1090]))))))) else (ke ((k', i, v)))
def M.laws_markStringS_l2_b (s : Int × Int × List Row) := M.laws_markStringS_l2_C s (fun s => some (Sum.inl s)) fun t => some (Sum.inr t)
def M.laws_markStringS_l2 (s : Int × Int × List Row) : Option (Int × Int × List Row) := loopM (M.laws_markStringS_l2_b) s
def F.laws_markStringS_l2 : LE X0 28 := le 2 (pSt [pAt 0 (pO 100000 0), pAt 1 pI, pAt 5 pI] [pAt 100000 (cA false true 0 1)]) (fun x => (x.1.2.1, x.1.2.2.1, x.2.1)) (fun x s => (((), s.1, s.2.1, ()), (s.2.2, ()))) (fun x => .leaf (Int × Int × List Row) (fun t => (Ex.exit 0, { tm := [(0, V.own 100000 0), (1, V.d (D.int IntKind.i64 t.fst)), (5, V.d (D.int IntKind.i64 t.snd.fst)), (9, V.d (D.bool false))], mem := [(100000, Cell.arr false true 0 1 t.snd.snd)] }))) (fun x => M.laws_markStringS_l2_C) [fe C.laws_markText] [] (by rintro _ _ ⟨_, _, _⟩ _ _ <;> simp only [M.laws_markStringS_l2_C, nb] <;> rfl)
def M.laws_markStringS_C {R : Type} (k' : Int) (c : List Row) (k : Int × List Row → Option R) : Option R :=
 (M.laws_markStringS_l2 ((k', 0, c))).bind fun t1093 => (k ((t1093.fst, t1093.snd.snd)))
def M.laws_markStringS (k' : Int) (c : List Row) : Option (Int × List Row) := M.laws_markStringS_C k' c some
theorem C.laws_markStringS : S.laws_markStringS.ok X0 fun x => M.laws_markStringS x.1.2.1 x.2.1 := fnS (fun x => M.laws_markStringS_C x.1.2.1 x.2.1) [] [F.laws_markStringS_l2] (by intros; simp only [M.laws_markStringS_C, nb] <;> rfl)
def M.laws_heldStringS_l2_C {R : Type} (a : List Row) (s : Int × Int) (kn : Int × Int → Option R) (ke : (Unit) ⊕ (Int × Int) → Option R) : Option R := match s with
 | (k', i) =>
 bif decide (i < (↑a.length : Int)) then
 ((idx a i).bind fun row1095 =>
 ((cStr row1095 0).bind fun s1096 =>
 ((M.laws_markText k').bind fun r1097 =>
 (bif !s1096 == r1097 then (ke (.inl ())) else (kn ((IntKind.i64.wrap (k' + 1), IntKind.i64.wrap (i + 1)))))))) else (ke (.inr ((k', i))))
def M.laws_heldStringS_l2_b (a : List Row) (s : Int × Int) := M.laws_heldStringS_l2_C a s (fun s => some (Sum.inl s)) fun t => some (Sum.inr t)
def M.laws_heldStringS_l2 (a : List Row) (s : Int × Int) : Option ((Unit) ⊕ (Int × Int)) := loopM (M.laws_heldStringS_l2_b a) s
def F.laws_heldStringS_l2 : LE X0 29 := le 2 (pSt [pAt 0 (pL false 1), pAt 1 pI, pAt 5 pI] []) (fun x => (x.1.2.1, x.1.2.2.1)) (fun x s => ((x.1.1, s.1, s.2, ()), ())) (fun x => .sum (.leaf (Unit) (fun t => (Ex.ret, { tm := [(4, V.d (D.int IntKind.i64 (-1)))], mem := [] }))) (.leaf (Int × Int) (fun t => (Ex.exit 0, { tm := [(0, V.d (D.sl false 1 x.1.1)), (1, V.d (D.int IntKind.i64 t.fst)), (5, V.d (D.int IntKind.i64 t.snd)), (9, V.d (D.bool false))], mem := [] })))) (fun x => M.laws_heldStringS_l2_C x.1.1) [fe C.laws_markText] [] (by rintro _ _ ⟨_, _⟩ _ _ <;> simp only [M.laws_heldStringS_l2_C, nb] <;> rfl)
def M.laws_heldStringS_C {R : Type} (a : List Row) (k' : Int) (k : Int → Option R) : Option R :=
 (M.laws_heldStringS_l2 a ((k', 0))).bind fun u1100 =>
 sumE u1100 (fun t1098 => (k (-1))) fun u1101 =>
 letE u1101 fun t1099 => (k t1099.fst)
def M.laws_heldStringS (a : List Row) (k' : Int) : Option (Int) := M.laws_heldStringS_C a k' some
theorem C.laws_heldStringS : S.laws_heldStringS.ok X0 fun x => M.laws_heldStringS x.1.1 x.1.2.1 := fnS (fun x => M.laws_heldStringS_C x.1.1 x.1.2.1) [] [F.laws_heldStringS_l2] (by intros; simp only [M.laws_heldStringS_C, nb] <;> rfl)
def M.laws_FnExactRecursive_C {R : Type} (aL : List Row) (k : Bool → Option R) : Option R :=
 (M.laws_szNodeS aL 1048576).bind fun r994 =>
 (bif decide (r994 < 0) then (k true) else
 ((M.laws_toNodeS aL).bind fun r995 =>
 ((M.spec_Recursive (fzRows r995)).bind fun r1045 =>
 (bif [[D.sl true 1 r1045]].all pureRow then
 ((M.laws_toNodeS aL).bind fun r1046 =>
 ((M.impl_Recursive (fzRows r1046)).bind fun r1076 =>
 (bif [[D.sl true 1 r1076]].all pureRow then
 ((M.laws_eqStringS r1076 r1045).bind fun r1085 =>
 (bif !r1085 then (k false) else
 ((M.laws_toNodeS aL).bind fun r1086 =>
 ((M.laws_eqNodeS (fzRows r1046) (fzRows r1086)).bind fun r1087 =>
 (bif !r1087 then (k false) else
 ((M.laws_markNodeS 1 r1046).bind fun r1088 =>
 (bif decide (r1088.fst < 0) then (k false) else
 ((M.laws_eqStringS r1076 r1045).bind fun r1089 =>
 (bif !r1089 then (k false) else
 ((M.laws_markStringS 1 r1076).bind fun r1094 =>
 ((M.laws_heldStringS r1094.snd 1).bind fun r1102 =>
 (bif decide (r1102 < 0) then (k false) else
 (bif r1102 != r1094.fst then (k false) else
 ((M.laws_toNodeS aL).bind fun r1103 =>
 ((M.impl_Recursive (fzRows r1103)).bind fun r1104 =>
 (bif [[D.sl true 1 r1104]].all pureRow then
 ((M.laws_eqStringS r1104 r1045).bind fun r1105 =>
 (bif !r1105 then (k false) else
 ((M.laws_heldStringS r1094.snd 1).bind fun r1106 =>
 (bif decide (r1106 < 0) then (k false) else (bif r1106 != r1094.fst then (k false) else (k true)))))) else none)))))))))))))))) else none))) else none))))
def M.laws_FnExactRecursive (aL : List Row) : Option (Bool) := M.laws_FnExactRecursive_C aL some
theorem C.laws_FnExactRecursive : S.laws_FnExactRecursive.ok X0 fun x => M.laws_FnExactRecursive x.1.1 := fnS (fun x => M.laws_FnExactRecursive_C x.1.1) [fe C.laws_szNodeS, fe C.laws_toNodeS, fe C.spec_Recursive, fe C.impl_Recursive, fe C.laws_eqStringS, fe C.laws_eqNodeS, fe C.laws_markNodeS, fe C.laws_markStringS, fe C.laws_heldStringS] [] (by intros; simp only [M.laws_FnExactRecursive_C, nb] <;> rfl)
abbrev S.spec_Uncalled : Sig := sg 30 [pL false 5] [] (ρ := List Row) fun r => ([[D.sl true 1 r]], [])
abbrev S.impl_FuncsOf : Sig := sg 74 [pL false 5] [] (ρ := List Row) fun r => ([[D.sl true 1 r]], [])
abbrev S.impl_Uncalled : Sig := sg 31 [pL false 5] [] (ρ := List Row) fun r => ([[D.sl true 1 r]], [])
abbrev S.laws_FnExactUncalled : Sig := sg 8 [pL false 5] [] (ρ := Bool) fun r => ([[D.bool r]], [])
def M.spec_Uncalled_l5_C {R : Type} (l : List Row) (x'1 : List Row) (s : Int × List Row) (kn : Int × List Row → Option R) (ke : Int × List Row → Option R) : Option R := match s with
 | (i, x') =>
 bif decide (i < (↑l.length : Int)) then
 ((M.spec_ProgramOk l).bind fun r1111 =>
 (bif r1111 then
 ((idx l i).bind fun row1112 =>
 ((cInt IntKind.i64 row1112 0).bind fun n1113 =>
 (bif n1113 == 44 then
 ((idx l i).bind fun row1114 =>
 ((cStr row1114 2).bind fun s1115 =>
 ((M.spec_l3Find x'1 s1115).bind fun r1116 =>
 (bif decide (r1116 < 0) then
 ((idx l i).bind fun row1117 =>
 ((cStr row1117 2).bind fun s1118 =>
 (bif flatRows x' then ((M.spec_l23Put x' s1118).bind fun r1119 => (kn ((IntKind.i64.wrap (i + 1), r1119)))) else none))) else (kn ((IntKind.i64.wrap (i + 1), x'))))))) else (kn ((IntKind.i64.wrap (i + 1), x')))))) else (ke ((i, x'))))) else (ke ((i, x')))
def M.spec_Uncalled_l5_b (l : List Row) (x'1 : List Row) (s : Int × List Row) := M.spec_Uncalled_l5_C l x'1 s (fun s => some (Sum.inl s)) fun t => some (Sum.inr t)
def M.spec_Uncalled_l5 (l : List Row) (x'1 : List Row) (s : Int × List Row) : Option (Int × List Row) := loopM (M.spec_Uncalled_l5_b l x'1) s
def F.spec_Uncalled_l5 : LE X0 30 := le 5 (pSt [pAt 0 (pL false 5), pAt 3 (pO 300000 0), pAt 5 (pO 300001 0), pAt 6 pI] [pAt 300000 (cA false true 0 1), pAt 300001 (cA false true 0 1)]) (fun x => (x.1.2.2.2.1, x.2.1)) (fun x s => ((x.1.1, (), (), s.1, ()), (s.2, x.2.2.1, ()))) (fun x => .leaf (Int × List Row) (fun t => (Ex.exit 0, { tm := [(0, V.d (D.sl false 5 x.1.1)), (3, V.own 300000 0), (5, V.own 300001 0), (6, V.d (D.int IntKind.i64 t.fst)), (19, V.d (D.bool false))], mem := [(300000, Cell.arr false true 0 1 t.snd), (300001, Cell.arr false true 0 1 x.2.2.1)] }))) (fun x => M.spec_Uncalled_l5_C x.1.1 x.2.2.1) [fe C.spec_ProgramOk, fe C.spec_l3Find, fe C.spec_l23Put] [] (by rintro _ _ ⟨_, _⟩ _ _ <;> simp only [M.spec_Uncalled_l5_C, nb] <;> rfl)
def M.spec_Uncalled_C {R : Type} (l : List Row) (k : List Row → Option R) : Option R :=
 (M.spec_CallsOf l).bind fun r1109 =>
 ((M.spec_Reached r1109 []).bind fun r1110 =>
 (bif [[D.sl true 1 r1110]].all pureRow then
 ((M.spec_Uncalled_l5 l r1110 ((0, []))).bind fun t1120 => (bif flatRows t1120.snd then (k t1120.snd) else none)) else none))
def M.spec_Uncalled (l : List Row) : Option (List Row) := M.spec_Uncalled_C l some
theorem C.spec_Uncalled : S.spec_Uncalled.ok X0 fun x => M.spec_Uncalled x.1.1 := fnS (fun x => M.spec_Uncalled_C x.1.1) [fe C.spec_CallsOf, fe C.spec_Reached] [F.spec_Uncalled_l5] (by intros; simp only [M.spec_Uncalled_C, nb] <;> rfl)
def M.impl_FuncsOf_l3_C {R : Type} (v7 : List Row) (v8 : Int) (s : Int × List Row) (kn : Int × List Row → Option R) (ke : Int × List Row → Option R) : Option R := match s with
 | (v9, x') =>
 bif decide (v9 < v8) then
 ((idx v7 v9).bind fun row1126 =>
 ((cInt IntKind.i64 row1126 0).bind fun n1127 =>
 ((cInt IntKind.i64 row1126 1).bind fun n1128 =>
 ((cStr row1126 2).bind fun s1129 =>
 ((cStr row1126 3).bind fun s1130 =>
 ((cSl 1 row1126 4).bind fun rows1131 =>
 (bif n1127 == 44 then
 (bif ((x'.length + [[D.int IntKind.i64 v9]].length) * 8).ble 140737488355328 then
 (bif (x'.length + [[D.int IntKind.i64 v9]].length).ble 140737488355328 then (kn ((IntKind.i64.wrap (v9 + 1), x' ++ [[D.int IntKind.i64 v9]]))) else none) else none) else (kn ((IntKind.i64.wrap (v9 + 1), x')))))))))) else (ke ((v9, x')))
def M.impl_FuncsOf_l3_b (v7 : List Row) (v8 : Int) (s : Int × List Row) := M.impl_FuncsOf_l3_C v7 v8 s (fun s => some (Sum.inl s)) fun t => some (Sum.inr t)
def M.impl_FuncsOf_l3 (v7 : List Row) (v8 : Int) (s : Int × List Row) : Option (Int × List Row) := loopM (M.impl_FuncsOf_l3_b v7 v8) s
def F.impl_FuncsOf_l3 : LE X0 74 := le 3 (pSt [pAt 3 (pO 300000 0), pAt 7 (pL false 5), pAt 8 pI, pAt 9 pI] [pAt 300000 (cA false true 0 1)]) (fun x => (x.1.2.2.2.1, x.2.1)) (fun x s => (((), x.1.2.1, x.1.2.2.1, s.1, ()), (s.2, ()))) (fun x => .leaf (Int × List Row) (fun t => (Ex.exit 0, { tm := [(3, V.own 300000 0), (7, V.d (D.sl false 5 x.1.2.1)), (8, V.d (D.int IntKind.i64 x.1.2.2.1)), (9, V.d (D.int IntKind.i64 t.fst)), (10, V.d (D.bool false))], mem := [(300000, Cell.arr false true 0 1 t.snd)] }))) (fun x => M.impl_FuncsOf_l3_C x.1.2.1 x.1.2.2.1) [] [] (by rintro _ _ ⟨_, _⟩ _ _ <;> simp only [M.impl_FuncsOf_l3_C, nb] <;> rfl)
def M.impl_FuncsOf_C {R : Type} (l : List Row) (k : List Row → Option R) : Option R :=
 (M.impl_FuncsOf_l3 l ((↑l.length : Int)) ((0, []))).bind fun t1132 => (bif flatRows t1132.snd then (k t1132.snd) else none)
def M.impl_FuncsOf (l : List Row) : Option (List Row) := M.impl_FuncsOf_C l some
theorem C.impl_FuncsOf : S.impl_FuncsOf.ok X0 fun x => M.impl_FuncsOf x.1.1 := fnS (fun x => M.impl_FuncsOf_C x.1.1) [] [F.impl_FuncsOf_l3] (by intros; simp only [M.impl_FuncsOf_C, nb] <;> rfl)
def M.impl_Uncalled_l6_C {R : Type} (l : List Row) (v17 : Int) (x'1 : List Row) (x'2 : List Row) (s : Int × List Row) (kn : Int × List Row → Option R) (ke : Int × List Row → Option R) : Option R := match s with
 | (v18, x') =>
 bif decide (v18 < v17) then
 ((idx x'2 v18).bind fun row1134 =>
 (x'2[v18.toNat]?.bind fun row1135 =>
 ((cInt IntKind.i64 row1135 0).bind fun n1136 =>
 ((idx l n1136).bind fun row1137 =>
 ((cStr row1137 2).bind fun s1138 =>
 ((M.slices_Contains x'1 s1138).bind fun r1139 =>
 (bif !r1139 then
 ((idx l n1136).bind fun row1140 =>
 ((cStr row1140 2).bind fun s1141 =>
 (bif ((x'.length + [[D.str s1141]].length) * 16).ble 140737488355328 then
 (bif (x'.length + [[D.str s1141]].length).ble 140737488355328 then (kn ((IntKind.i64.wrap (v18 + 1), x' ++ [[D.str s1141]]))) else none) else none))) else (kn ((IntKind.i64.wrap (v18 + 1), x')))))))))) else (ke ((v18, x')))
def M.impl_Uncalled_l6_b (l : List Row) (v17 : Int) (x'1 : List Row) (x'2 : List Row) (s : Int × List Row) := M.impl_Uncalled_l6_C l v17 x'1 x'2 s (fun s => some (Sum.inl s)) fun t => some (Sum.inr t)
def M.impl_Uncalled_l6 (l : List Row) (v17 : Int) (x'1 : List Row) (x'2 : List Row) (s : Int × List Row) : Option (Int × List Row) := loopM (M.impl_Uncalled_l6_b l v17 x'1 x'2) s
def F.impl_Uncalled_l6 : LE X0 31 := le 6 (pSt [pAt 0 (pL false 5), pAt 3 (pO 300000 0), pAt 4 (pO 300001 0), pAt 16 (pO 300002 0), pAt 17 pI, pAt 18 pI] [pAt 300000 (cA false true 0 1), pAt 300001 (cA false true 0 1), pAt 300002 (cA false true 0 1)]) (fun x => (x.1.2.2.2.2.2.1, x.2.1)) (fun x s => ((x.1.1, (), (), (), x.1.2.2.2.2.1, s.1, ()), (s.2, x.2.2.1, x.2.2.2.1, ()))) (fun x => .leaf (Int × List Row) (fun t => (Ex.exit 0, { tm := [(0, V.d (D.sl false 5 x.1.1)), (3, V.own 300000 0), (4, V.own 300001 0), (16, V.own 300002 0), (17, V.d (D.int IntKind.i64 x.1.2.2.2.2.1)), (18, V.d (D.int IntKind.i64 t.fst)), (19, V.d (D.bool false))], mem := [(300000, Cell.arr false true 0 1 t.snd), (300001, Cell.arr false true 0 1 x.2.2.1), (300002, Cell.arr false true 0 1 x.2.2.2.1)] }))) (fun x => M.impl_Uncalled_l6_C x.1.1 x.1.2.2.2.2.1 x.2.2.1 x.2.2.2.1) [fe C.slices_Contains] [] (by rintro _ _ ⟨_, _⟩ _ _ <;> simp only [M.impl_Uncalled_l6_C, nb] <;> rfl)
def M.impl_Uncalled_C {R : Type} (l : List Row) (k : List Row → Option R) : Option R :=
 (M.impl_ProgramOk l).bind fun r1123 =>
 (bif !r1123 then (k []) else
 ((M.impl_CallsOf l).bind fun r1124 =>
 ((M.impl_Reached r1124 []).bind fun r1125 =>
 (bif [[D.sl true 1 r1125]].all pureRow then
 ((M.impl_FuncsOf l).bind fun r1133 =>
 ((M.impl_Uncalled_l6 l ((↑r1133.length : Int)) r1125 r1133 ((0, []))).bind fun t1142 =>
 (bif flatRows t1142.snd then ((M.impl_once t1142.snd).bind fun r1143 => (bif flatRows r1143 then (k r1143) else none)) else none))) else none))))
def M.impl_Uncalled (l : List Row) : Option (List Row) := M.impl_Uncalled_C l some
theorem C.impl_Uncalled : S.impl_Uncalled.ok X0 fun x => M.impl_Uncalled x.1.1 := fnS (fun x => M.impl_Uncalled_C x.1.1) [fe C.impl_ProgramOk, fe C.impl_CallsOf, fe C.impl_Reached, fe C.impl_FuncsOf, fe C.impl_once] [F.impl_Uncalled_l6] (by intros; simp only [M.impl_Uncalled_C, nb] <;> rfl)
def M.laws_FnExactUncalled_C {R : Type} (aL : List Row) (k : Bool → Option R) : Option R :=
 (M.laws_szNodeS aL 1048576).bind fun r1107 =>
 (bif decide (r1107 < 0) then (k true) else
 ((M.laws_toNodeS aL).bind fun r1108 =>
 ((M.spec_Uncalled (fzRows r1108)).bind fun r1121 =>
 (bif [[D.sl true 1 r1121]].all pureRow then
 ((M.laws_toNodeS aL).bind fun r1122 =>
 ((M.impl_Uncalled (fzRows r1122)).bind fun r1144 =>
 (bif [[D.sl true 1 r1144]].all pureRow then
 ((M.laws_eqStringS r1144 r1121).bind fun r1145 =>
 (bif !r1145 then (k false) else
 ((M.laws_toNodeS aL).bind fun r1146 =>
 ((M.laws_eqNodeS (fzRows r1122) (fzRows r1146)).bind fun r1147 =>
 (bif !r1147 then (k false) else
 ((M.laws_markNodeS 1 r1122).bind fun r1148 =>
 (bif decide (r1148.fst < 0) then (k false) else
 ((M.laws_eqStringS r1144 r1121).bind fun r1149 =>
 (bif !r1149 then (k false) else
 ((M.laws_markStringS 1 r1144).bind fun r1150 =>
 ((M.laws_heldStringS r1150.snd 1).bind fun r1151 =>
 (bif decide (r1151 < 0) then (k false) else
 (bif r1151 != r1150.fst then (k false) else
 ((M.laws_toNodeS aL).bind fun r1152 =>
 ((M.impl_Uncalled (fzRows r1152)).bind fun r1153 =>
 (bif [[D.sl true 1 r1153]].all pureRow then
 ((M.laws_eqStringS r1153 r1121).bind fun r1154 =>
 (bif !r1154 then (k false) else
 ((M.laws_heldStringS r1150.snd 1).bind fun r1155 =>
 (bif decide (r1155 < 0) then (k false) else (bif r1155 != r1150.fst then (k false) else (k true)))))) else none)))))))))))))))) else none))) else none))))
def M.laws_FnExactUncalled (aL : List Row) : Option (Bool) := M.laws_FnExactUncalled_C aL some
theorem C.laws_FnExactUncalled : S.laws_FnExactUncalled.ok X0 fun x => M.laws_FnExactUncalled x.1.1 := fnS (fun x => M.laws_FnExactUncalled_C x.1.1) [fe C.laws_szNodeS, fe C.laws_toNodeS, fe C.spec_Uncalled, fe C.impl_Uncalled, fe C.laws_eqStringS, fe C.laws_eqNodeS, fe C.laws_markNodeS, fe C.laws_markStringS, fe C.laws_heldStringS] [] (by intros; simp only [M.laws_FnExactUncalled_C, nb] <;> rfl)
end
end Go.Proofs.YtodbelembghegaaGreatDoor
