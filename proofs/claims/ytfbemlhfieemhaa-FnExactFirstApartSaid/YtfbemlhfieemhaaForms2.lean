/-
  The plain forms of the functions, and that they are what the functions come to (2).
-/
import Derived.Test.YtfbemlhfieemhaaForms
namespace Go.Proofs.Ytfbemlhfieemhaa
open Go Go.Vm
set_option linter.unusedVariables false
set_option linter.unusedSimpArgs false
/-! laws_markNodeS -/
def H.laws_markNodeS (o : Int → List Row → Option (Int × List Row)) : Prop := ∀ (k' : Int) (c : List Row) (r : Int × List Row), o k' c = some r → call X0 28 [V.own 100000 0, V.d (D.int IntKind.i64 k')] [Cell.arr false false 0 5 c] = some ([[D.int IntKind.i64 r.fst]], [Cell.arr false false 0 5 r.snd])
def P.laws_markNodeS (o : Int → List Row → Option (Int × List Row)) (q : List V → List Cell → Res (List Row × List Cell)) (a : List V) (c : List Cell) : Res (List Row × List Cell) := match a, c with
  | [V.own 100000 0, V.d (D.int IntKind.i64 k')], [Cell.arr false false 0 5 c] => ⟨Int × List Row, o k' c, fun r => ([[D.int IntKind.i64 r.fst]], [Cell.arr false false 0 5 r.snd])⟩
  | a, c => q a c
theorem P.laws_markNodeS_ok {o : Int → List Row → Option (Int × List Row)} {q : List V → List Cell → Res (List Row × List Cell)} (h : H.laws_markNodeS o) (hq : FnOk X0 28 q) : FnOk X0 28 (P.laws_markNodeS o q) := by
  intro a c r hr
  unfold P.laws_markNodeS at hr
  split at hr
  · obtain ⟨x, hx, rfl⟩ := Res.val_some hr
    exact h _ _ x hx
  · exact hq _ _ _ hr
noncomputable def M.laws_markNodeS_l2_C {R : Type} (s : Int × Int × List Row) (kn : Int × Int × List Row → Option R) (ke : Int × Int × Bool × List Row → Option R) : Option R := match s with
  | (k', i, v) =>
    bif decide (i < (↑v.length : Int)) then
     ((idx v i).bind fun row353 =>
      (v[i.toNat]?.bind fun row354 =>
       ((idx (v.set i.toNat (splice row354 0 [D.int IntKind.i64 k'])) i).bind fun row355 =>
        (((v.set i.toNat (splice row354 0 [D.int IntKind.i64 k']))[i.toNat]?).bind fun row356 =>
         ((M.laws_markText (IntKind.i64.wrap (IntKind.i64.wrap (k' + 1) + 1))).bind fun r357 =>
          ((idx ((v.set i.toNat (splice row354 0 [D.int IntKind.i64 k'])).set i.toNat (splice row356 1 [D.int IntKind.i64 (IntKind.i64.wrap (k' + 1))])) i).bind fun row358 =>
           ((((v.set i.toNat (splice row354 0 [D.int IntKind.i64 k'])).set i.toNat (splice row356 1 [D.int IntKind.i64 (IntKind.i64.wrap (k' + 1))]))[i.toNat]?).bind fun row359 =>
            ((M.laws_markText (IntKind.i64.wrap (IntKind.i64.wrap (IntKind.i64.wrap (k' + 1) + 1) + 1))).bind fun r360 =>
             ((idx (((v.set i.toNat (splice row354 0 [D.int IntKind.i64 k'])).set i.toNat (splice row356 1 [D.int IntKind.i64 (IntKind.i64.wrap (k' + 1))])).set i.toNat (splice row359 2 [D.str r357])) i).bind fun row361 =>
              (((((v.set i.toNat (splice row354 0 [D.int IntKind.i64 k'])).set i.toNat (splice row356 1 [D.int IntKind.i64 (IntKind.i64.wrap (k' + 1))])).set i.toNat (splice row359 2 [D.str r357]))[i.toNat]?).bind fun row362 =>
               ((idx ((((v.set i.toNat (splice row354 0 [D.int IntKind.i64 k'])).set i.toNat (splice row356 1 [D.int IntKind.i64 (IntKind.i64.wrap (k' + 1))])).set i.toNat (splice row359 2 [D.str r357])).set i.toNat (splice row362 3 [D.str r360])) i).bind fun row363 =>
                ((((((v.set i.toNat (splice row354 0 [D.int IntKind.i64 k'])).set i.toNat (splice row356 1 [D.int IntKind.i64 (IntKind.i64.wrap (k' + 1))])).set i.toNat (splice row359 2 [D.str r357])).set i.toNat (splice row362 3 [D.str r360]))[i.toNat]?).bind fun row364 =>
                 ((cOwn 1 row364 4).bind fun rows365 =>
                  (bif flatRows rows365 then
                   ((M.laws_markIntS (IntKind.i64.wrap (IntKind.i64.wrap (IntKind.i64.wrap (IntKind.i64.wrap (k' + 1) + 1) + 1) + 1)) rows365).bind fun r366 =>
                    (bif Nat.beq 1 1 && (true == true && (flatRows r366.snd && pureRows r366.snd)) then
                     (kn ((r366.fst, IntKind.i64.wrap (i + 1), ((((v.set i.toNat (splice row354 0 [D.int IntKind.i64 k'])).set i.toNat (splice row356 1 [D.int IntKind.i64 (IntKind.i64.wrap (k' + 1))])).set i.toNat (splice row359 2 [D.str r357])).set i.toNat (splice row362 3 [D.str r360])).set i.toNat (splice row364 4 [D.sl true 1 r366.snd])))) else none)) else none)))))))))))))) else (ke ((k', i, decide (i < (↑v.length : Int)), v)))
noncomputable def M.laws_markNodeS_l2_b (s : Int × Int × List Row) : Option ((Int × Int × List Row) ⊕ (Int × Int × Bool × List Row)) := M.laws_markNodeS_l2_C s (fun s => some (.inl s)) (fun t => some (.inr t))
noncomputable def M.laws_markNodeS_l2 (s : Int × Int × List Row) : Option (Int × Int × Bool × List Row) := loopM (M.laws_markNodeS_l2_b) s
theorem M.laws_markNodeS_l2_n {R : Type} (s : Int × Int × List Row) (kn : Int × Int × List Row → Option R) (ke : Int × Int × Bool × List Row → Option R) : M.laws_markNodeS_l2_C s kn ke = (M.laws_markNodeS_l2_b s).bind fun r => match r with | .inl s => kn s | .inr t => ke t := by
  obtain ⟨k', i, v⟩ := s
  all_goals
    simp only [M.laws_markNodeS_l2_b, M.laws_markNodeS_l2_C, bif_bind, bind_bind, some_bind, none_bind, sumE_bind, optE_bind, letE_bind]
def A.laws_markNodeS_l2 : Alt (Ex × St) := .leaf (Int × Int × Bool × List Row) (fun t => (Ex.exit 0, { tm := [(0, V.own 100000 0), (1, V.d (D.int IntKind.i64 t.fst)), (5, V.d (D.int IntKind.i64 t.snd.fst)), (9, V.d (D.bool t.snd.snd.fst))], mem := [(100000, Cell.arr false false 0 5 t.snd.snd.snd)] }))
def T.laws_markNodeS_l2 (s : Int × Int × List Row) : St := match s with
  | (k', i, v) => { tm := [(0, V.own 100000 0), (1, V.d (D.int IntKind.i64 k')), (5, V.d (D.int IntKind.i64 i))], mem := [(100000, Cell.arr false false 0 5 v)] }
noncomputable def K.laws_markNodeS_l2 : KonC := (kcons 43 (P.laws_markText M.laws_markText pnil) (kcons 21 (P.laws_markIntS M.laws_markIntS pnil) knil))
noncomputable def L.laws_markNodeS_l2 : LoopC := lnil
theorem E.laws_markNodeS_l2 {R : Type} (s : Int × Int × List Row) (k : Ex → St → Option R) : denC X0 (K.laws_markNodeS_l2) (L.laws_markNodeS_l2) 28 (loopCode X0.P 28 2) (T.laws_markNodeS_l2 s) k = M.laws_markNodeS_l2_C s (fun s => k .normal (T.laws_markNodeS_l2 s)) (fun t => (A.laws_markNodeS_l2).go t fun r => k r.1 r.2) := by
  obtain ⟨k', i, v⟩ := s
  all_goals kernel_rfl
theorem LC.laws_markNodeS_l2 : loops (loopCode X0.P 28 2) = [] := by kernel_rfl
noncomputable def PL.laws_markNodeS_l2 (S : St) : ResA (Ex × St) := match S with
  | { tm := [(0, V.own 100000 0), (1, V.d (D.int IntKind.i64 k')), (5, V.d (D.int IntKind.i64 i))], mem := [(100000, Cell.arr false false 0 5 v)] } => ⟨A.laws_markNodeS_l2, M.laws_markNodeS_l2 ((k', i, v))⟩
  | _ => .none
theorem C.laws_markNodeS_l2 : LpOk X0 28 2 (loopCode X0.P 28 2) (PL.laws_markNodeS_l2) := by
  refine ⟨by kernel_rfl, fun S r hr => ?_⟩
  unfold PL.laws_markNodeS_l2 at hr
  split at hr
  · obtain ⟨x, hx, rfl⟩ := ResA.val_some hr
    exact lp_sound (K := K.laws_markNodeS_l2) (L := L.laws_markNodeS_l2) (b := M.laws_markNodeS_l2_b) (tm := T.laws_markNodeS_l2) (tx := (A.laws_markNodeS_l2).enc) (kcons_ok (P.laws_markText_ok C.laws_markText pnil_ok) (kcons_ok (P.laws_markIntS_ok C.laws_markIntS pnil_ok) knil_ok)) (by rw [LC.laws_markNodeS_l2]; exact LOk.nil) (fun s => by rw [E.laws_markNodeS_l2, M.laws_markNodeS_l2_n]; congr 1; funext r; cases r <;> first | rfl | exact Alt.go_eq _ _ _) (by intro t; intro h; cases h) hx (s := (_, _, _))
  · cases hr
noncomputable def M.laws_markNodeS_C {R : Type} (k' : Int) (c : List Row) (k : Int × List Row → Option R) : Option R :=
  (M.laws_markNodeS_l2 ((k', 0, c))).bind fun t367 => (k ((t367.fst, t367.snd.snd.snd)))
noncomputable def M.laws_markNodeS (k' : Int) (c : List Row) : Option (Int × List Row) := M.laws_markNodeS_C k' c some
theorem M.laws_markNodeS_n {R : Type} (k' : Int) (c : List Row) (k : Int × List Row → Option R) : M.laws_markNodeS_C k' c k = (M.laws_markNodeS_C k' c some).bind k := by
  simp only [M.laws_markNodeS_C, bif_bind, bind_bind, some_bind, none_bind, sumE_bind, optE_bind, letE_bind]
noncomputable def K.laws_markNodeS : KonC := knil
noncomputable def L.laws_markNodeS : LoopC := (lcons 2 (PL.laws_markNodeS_l2) lnil)
theorem E.laws_markNodeS {R : Type} (k' : Int) (c : List Row) (k : List Row → List Cell → Option R) : bodyC X0 (K.laws_markNodeS) (L.laws_markNodeS) 28 [V.own 100000 0, V.d (D.int IntKind.i64 k')] [Cell.arr false false 0 5 c] k = M.laws_markNodeS_C k' c (fun r => k [[D.int IntKind.i64 r.fst]] [Cell.arr false false 0 5 r.snd]) := by kernel_rfl
theorem LC.laws_markNodeS : loops (codeOf X0.P 28) = [loopCode X0.P 28 2] := by kernel_rfl
theorem C.laws_markNodeS : H.laws_markNodeS (M.laws_markNodeS) := by
  intro k' c r h
  exact fn_sound (enc := fun r => ([[D.int IntKind.i64 r.fst]], [Cell.arr false false 0 5 r.snd])) (K := K.laws_markNodeS) (L := L.laws_markNodeS) (by kernel_rfl) knil_ok (by rw [LC.laws_markNodeS]; exact (LOk.cons (LpOk.at (C.laws_markNodeS_l2) (fun _ => rfl)) LOk.nil)) (by rw [E.laws_markNodeS, M.laws_markNodeS_n] <;> rfl) h

/-! laws_FnExactPreorder -/
def H.laws_FnExactPreorder (o : List Row → Option (Bool)) : Prop := ∀ (aL : List Row) (r : Bool), o aL = some r → call X0 6 [V.d (D.sl false 5 aL)] [] = some ([[D.bool r]], [])
def P.laws_FnExactPreorder (o : List Row → Option (Bool)) (q : List V → List Cell → Res (List Row × List Cell)) (a : List V) (c : List Cell) : Res (List Row × List Cell) := match a, c with
  | [V.d (D.sl false 5 aL)], [] => ⟨Bool, o aL, fun r => ([[D.bool r]], [])⟩
  | a, c => q a c
theorem P.laws_FnExactPreorder_ok {o : List Row → Option (Bool)} {q : List V → List Cell → Res (List Row × List Cell)} (h : H.laws_FnExactPreorder o) (hq : FnOk X0 6 q) : FnOk X0 6 (P.laws_FnExactPreorder o q) := by
  intro a c r hr
  unfold P.laws_FnExactPreorder at hr
  split at hr
  · obtain ⟨x, hx, rfl⟩ := Res.val_some hr
    exact h _ x hx
  · exact hq _ _ _ hr
noncomputable def M.laws_FnExactPreorder_C {R : Type} (aL : List Row) (k : Bool → Option R) : Option R :=
  (M.laws_szNodeS aL 1048576).bind fun r327 =>
   (bif decide (r327 < 0) then (k true) else
    ((M.laws_toNodeS aL).bind fun r328 =>
     ((M.spec_Preorder (fzRows r328)).bind fun r339 =>
      (bif [[D.sl true 1 r339]].all pureRow then
       ((M.laws_toNodeS aL).bind fun r340 =>
        ((M.impl_Preorder (fzRows r340)).bind fun r349 =>
         (bif [[D.sl true 1 r349]].all pureRow then
          ((M.laws_eqIntS r349 r339).bind fun r350 =>
           (bif !r350 then (k false) else
            ((M.laws_toNodeS aL).bind fun r351 =>
             ((M.laws_eqNodeS (fzRows r340) (fzRows r351)).bind fun r352 =>
              (bif !r352 then (k false) else
               ((M.laws_markNodeS 1 r340).bind fun r368 =>
                (bif decide (r368.fst < 0) then (k false) else
                 ((M.laws_eqIntS r349 r339).bind fun r369 =>
                  (bif !r369 then (k false) else
                   ((M.laws_markIntS 1 r349).bind fun r370 =>
                    ((M.laws_heldIntS r370.snd 1).bind fun r371 =>
                     (bif decide (r371 < 0) then (k false) else
                      (bif r371 != r370.fst then (k false) else
                       ((M.laws_toNodeS aL).bind fun r372 =>
                        ((M.impl_Preorder (fzRows r372)).bind fun r373 =>
                         (bif [[D.sl true 1 r373]].all pureRow then
                          ((M.laws_eqIntS r373 r339).bind fun r374 =>
                           (bif !r374 then (k false) else
                            ((M.laws_heldIntS r370.snd 1).bind fun r375 =>
                             (bif decide (r375 < 0) then (k false) else (bif r375 != r370.fst then (k false) else (k true)))))) else none)))))))))))))))) else none))) else none))))
noncomputable def M.laws_FnExactPreorder (aL : List Row) : Option (Bool) := M.laws_FnExactPreorder_C aL some
theorem M.laws_FnExactPreorder_n {R : Type} (aL : List Row) (k : Bool → Option R) : M.laws_FnExactPreorder_C aL k = (M.laws_FnExactPreorder_C aL some).bind k := by
  simp only [M.laws_FnExactPreorder_C, bif_bind, bind_bind, some_bind, none_bind, sumE_bind, optE_bind, letE_bind]
noncomputable def K.laws_FnExactPreorder : KonC := (kcons 9 (P.laws_szNodeS M.laws_szNodeS pnil) (kcons 11 (P.laws_toNodeS M.laws_toNodeS pnil) (kcons 26 (P.spec_Preorder M.spec_Preorder pnil) (kcons 27 (P.impl_Preorder M.impl_Preorder pnil) (kcons 18 (P.laws_eqIntS M.laws_eqIntS pnil) (kcons 13 (P.laws_eqNodeS M.laws_eqNodeS pnil) (kcons 28 (P.laws_markNodeS M.laws_markNodeS pnil) (kcons 21 (P.laws_markIntS M.laws_markIntS pnil) (kcons 22 (P.laws_heldIntS M.laws_heldIntS pnil) knil)))))))))
noncomputable def L.laws_FnExactPreorder : LoopC := lnil
theorem E.laws_FnExactPreorder {R : Type} (aL : List Row) (k : List Row → List Cell → Option R) : bodyC X0 (K.laws_FnExactPreorder) (L.laws_FnExactPreorder) 6 [V.d (D.sl false 5 aL)] [] k = M.laws_FnExactPreorder_C aL (fun r => k [[D.bool r]] []) := by kernel_rfl
theorem LC.laws_FnExactPreorder : loops (codeOf X0.P 6) = [] := by kernel_rfl
theorem C.laws_FnExactPreorder : H.laws_FnExactPreorder (M.laws_FnExactPreorder) := by
  intro aL r h
  exact fn_sound (enc := fun r => ([[D.bool r]], [])) (K := K.laws_FnExactPreorder) (L := L.laws_FnExactPreorder) (by kernel_rfl) (kcons_ok (P.laws_szNodeS_ok C.laws_szNodeS pnil_ok) (kcons_ok (P.laws_toNodeS_ok C.laws_toNodeS pnil_ok) (kcons_ok (P.spec_Preorder_ok C.spec_Preorder pnil_ok) (kcons_ok (P.impl_Preorder_ok C.impl_Preorder pnil_ok) (kcons_ok (P.laws_eqIntS_ok C.laws_eqIntS pnil_ok) (kcons_ok (P.laws_eqNodeS_ok C.laws_eqNodeS pnil_ok) (kcons_ok (P.laws_markNodeS_ok C.laws_markNodeS pnil_ok) (kcons_ok (P.laws_markIntS_ok C.laws_markIntS pnil_ok) (kcons_ok (P.laws_heldIntS_ok C.laws_heldIntS pnil_ok) knil_ok))))))))) (by rw [LC.laws_FnExactPreorder]; exact LOk.nil) (by rw [E.laws_FnExactPreorder, M.laws_FnExactPreorder_n] <;> rfl) h

/-! spec_ParentOf -/
def H.spec_ParentOf (o : List Row → Int → Option (Int)) : Prop := ∀ (l : List Row) (i : Int) (r : Int), o l i = some r → call X0 48 [V.d (D.sl false 5 l), V.d (D.int IntKind.i64 i)] [] = some ([[D.int IntKind.i64 r]], [])
def P.spec_ParentOf (o : List Row → Int → Option (Int)) (q : List V → List Cell → Res (List Row × List Cell)) (a : List V) (c : List Cell) : Res (List Row × List Cell) := match a, c with
  | [V.d (D.sl false 5 l), V.d (D.int IntKind.i64 i)], [] => ⟨Int, o l i, fun r => ([[D.int IntKind.i64 r]], [])⟩
  | a, c => q a c
theorem P.spec_ParentOf_ok {o : List Row → Int → Option (Int)} {q : List V → List Cell → Res (List Row × List Cell)} (h : H.spec_ParentOf o) (hq : FnOk X0 48 q) : FnOk X0 48 (P.spec_ParentOf o q) := by
  intro a c r hr
  unfold P.spec_ParentOf at hr
  split at hr
  · obtain ⟨x, hx, rfl⟩ := Res.val_some hr
    exact h _ _ x hx
  · exact hq _ _ _ hr
noncomputable def M.spec_ParentOf_l7_C {R : Type} (l : List Row) (i : Int) (k' : Int) (s : Int) (kn : Int → Option R) (ke : (Unit) ⊕ (Int × Bool) → Option R) : Option R := match s with
  | j =>
    (idx l k').bind fun row381 =>
     ((cSl 1 row381 4).bind fun rows382 =>
      (bif decide (j < (↑rows382.length : Int)) then
       ((idx l k').bind fun row383 =>
        ((cSl 1 row383 4).bind fun rows384 =>
         ((idx rows384 j).bind fun row385 =>
          ((cInt IntKind.i64 row385 0).bind fun n386 => (bif n386 == i then (ke (.inl ())) else (kn (IntKind.i64.wrap (j + 1)))))))) else (ke (.inr ((j, decide (j < (↑rows382.length : Int))))))))
noncomputable def M.spec_ParentOf_l7_b (l : List Row) (i : Int) (k' : Int) (s : Int) : Option ((Int) ⊕ ((Unit) ⊕ (Int × Bool))) := M.spec_ParentOf_l7_C l i k' s (fun s => some (.inl s)) (fun t => some (.inr t))
noncomputable def M.spec_ParentOf_l7 (l : List Row) (i : Int) (k' : Int) (s : Int) : Option ((Unit) ⊕ (Int × Bool)) := loopM (M.spec_ParentOf_l7_b l i k') s
theorem M.spec_ParentOf_l7_n {R : Type} (l : List Row) (i : Int) (k' : Int) (s : Int) (kn : Int → Option R) (ke : (Unit) ⊕ (Int × Bool) → Option R) : M.spec_ParentOf_l7_C l i k' s kn ke = (M.spec_ParentOf_l7_b l i k' s).bind fun r => match r with | .inl s => kn s | .inr t => ke t := by
  skip
  all_goals
    simp only [M.spec_ParentOf_l7_b, M.spec_ParentOf_l7_C, bif_bind, bind_bind, some_bind, none_bind, sumE_bind, optE_bind, letE_bind]
def A.spec_ParentOf_l7 (l : List Row) (i : Int) (k' : Int) : Alt (Ex × St) := .sum (.leaf (Unit) (fun t => (Ex.ret, { tm := [(4, V.d (D.int IntKind.i64 k'))], mem := [] }))) (.leaf (Int × Bool) (fun t => (Ex.exit 2, { tm := [(0, V.d (D.sl false 5 l)), (1, V.d (D.int IntKind.i64 i)), (5, V.d (D.int IntKind.i64 k')), (6, V.d (D.int IntKind.i64 t.fst)), (23, V.d (D.bool t.snd))], mem := [] })))
def T.spec_ParentOf_l7 (l : List Row) (i : Int) (k' : Int) (s : Int) : St := match s with
  | j => { tm := [(0, V.d (D.sl false 5 l)), (1, V.d (D.int IntKind.i64 i)), (5, V.d (D.int IntKind.i64 k')), (6, V.d (D.int IntKind.i64 j))], mem := [] }
noncomputable def K.spec_ParentOf_l7 : KonC := knil
noncomputable def L.spec_ParentOf_l7 : LoopC := lnil
theorem E.spec_ParentOf_l7 {R : Type} (l : List Row) (i : Int) (k' : Int) (s : Int) (k : Ex → St → Option R) : denC X0 (K.spec_ParentOf_l7) (L.spec_ParentOf_l7) 48 (loopCode X0.P 48 7) (T.spec_ParentOf_l7 l i k' s) k = M.spec_ParentOf_l7_C l i k' s (fun s => k .normal (T.spec_ParentOf_l7 l i k' s)) (fun t => (A.spec_ParentOf_l7 l i k').go t fun r => k r.1 r.2) := by
  skip
  all_goals kernel_rfl
theorem LC.spec_ParentOf_l7 : loops (loopCode X0.P 48 7) = [] := by kernel_rfl
noncomputable def PL.spec_ParentOf_l7 (S : St) : ResA (Ex × St) := match S with
  | { tm := [(0, V.d (D.sl false 5 l)), (1, V.d (D.int IntKind.i64 i)), (5, V.d (D.int IntKind.i64 k')), (6, V.d (D.int IntKind.i64 j))], mem := [] } => ⟨A.spec_ParentOf_l7 l i k', M.spec_ParentOf_l7 l i k' j⟩
  | _ => .none
theorem C.spec_ParentOf_l7 : LpOk X0 48 7 (loopCode X0.P 48 7) (PL.spec_ParentOf_l7) := by
  refine ⟨by kernel_rfl, fun S r hr => ?_⟩
  unfold PL.spec_ParentOf_l7 at hr
  split at hr
  · obtain ⟨x, hx, rfl⟩ := ResA.val_some hr
    exact lp_sound (K := K.spec_ParentOf_l7) (L := L.spec_ParentOf_l7) (b := M.spec_ParentOf_l7_b _ _ _) (tm := T.spec_ParentOf_l7 _ _ _) (tx := (A.spec_ParentOf_l7 _ _ _).enc) knil_ok (by rw [LC.spec_ParentOf_l7]; exact LOk.nil) (fun s => by rw [E.spec_ParentOf_l7, M.spec_ParentOf_l7_n]; congr 1; funext r; cases r <;> first | rfl | exact Alt.go_eq _ _ _) (by intro t; rcases t with t | t <;> first | (intro h; cases h) | (intro h; cases h)) hx (s := _)
  · cases hr
noncomputable def M.spec_ParentOf_l4_C {R : Type} (l : List Row) (i : Int) (s : Int) (kn : Int → Option R) (ke : (Int) ⊕ (Int × Bool) → Option R) : Option R := match s with
  | k' =>
    bif decide (k' < (↑l.length : Int)) then
     ((M.spec_ParentOf_l7 l i k' 0).bind fun u391 =>
     sumE u391 (fun t387 => (ke (.inl k'))) fun u392 =>
      letE u392 fun t388 => (kn (IntKind.i64.wrap (k' + 1)))) else (ke (.inr ((k', decide (k' < (↑l.length : Int))))))
noncomputable def M.spec_ParentOf_l4_b (l : List Row) (i : Int) (s : Int) : Option ((Int) ⊕ ((Int) ⊕ (Int × Bool))) := M.spec_ParentOf_l4_C l i s (fun s => some (.inl s)) (fun t => some (.inr t))
noncomputable def M.spec_ParentOf_l4 (l : List Row) (i : Int) (s : Int) : Option ((Int) ⊕ (Int × Bool)) := loopM (M.spec_ParentOf_l4_b l i) s
theorem M.spec_ParentOf_l4_n {R : Type} (l : List Row) (i : Int) (s : Int) (kn : Int → Option R) (ke : (Int) ⊕ (Int × Bool) → Option R) : M.spec_ParentOf_l4_C l i s kn ke = (M.spec_ParentOf_l4_b l i s).bind fun r => match r with | .inl s => kn s | .inr t => ke t := by
  skip
  all_goals
    simp only [M.spec_ParentOf_l4_b, M.spec_ParentOf_l4_C, bif_bind, bind_bind, some_bind, none_bind, sumE_bind, optE_bind, letE_bind]
def A.spec_ParentOf_l4 (l : List Row) (i : Int) : Alt (Ex × St) := .sum (.leaf (Int) (fun t => (Ex.ret, { tm := [(4, V.d (D.int IntKind.i64 t))], mem := [] }))) (.leaf (Int × Bool) (fun t => (Ex.exit 0, { tm := [(0, V.d (D.sl false 5 l)), (1, V.d (D.int IntKind.i64 i)), (5, V.d (D.int IntKind.i64 t.fst)), (13, V.d (D.bool t.snd))], mem := [] })))
def T.spec_ParentOf_l4 (l : List Row) (i : Int) (s : Int) : St := match s with
  | k' => { tm := [(0, V.d (D.sl false 5 l)), (1, V.d (D.int IntKind.i64 i)), (5, V.d (D.int IntKind.i64 k'))], mem := [] }
noncomputable def K.spec_ParentOf_l4 : KonC := knil
noncomputable def L.spec_ParentOf_l4 : LoopC := (lcons 7 (PL.spec_ParentOf_l7) lnil)
theorem E.spec_ParentOf_l4 {R : Type} (l : List Row) (i : Int) (s : Int) (k : Ex → St → Option R) : denC X0 (K.spec_ParentOf_l4) (L.spec_ParentOf_l4) 48 (loopCode X0.P 48 4) (T.spec_ParentOf_l4 l i s) k = M.spec_ParentOf_l4_C l i s (fun s => k .normal (T.spec_ParentOf_l4 l i s)) (fun t => (A.spec_ParentOf_l4 l i).go t fun r => k r.1 r.2) := by
  skip
  all_goals kernel_rfl
theorem LC.spec_ParentOf_l4 : loops (loopCode X0.P 48 4) = [loopCode X0.P 48 7] := by kernel_rfl
noncomputable def PL.spec_ParentOf_l4 (S : St) : ResA (Ex × St) := match S with
  | { tm := [(0, V.d (D.sl false 5 l)), (1, V.d (D.int IntKind.i64 i)), (5, V.d (D.int IntKind.i64 k'))], mem := [] } => ⟨A.spec_ParentOf_l4 l i, M.spec_ParentOf_l4 l i k'⟩
  | _ => .none
theorem C.spec_ParentOf_l4 : LpOk X0 48 4 (loopCode X0.P 48 4) (PL.spec_ParentOf_l4) := by
  refine ⟨by kernel_rfl, fun S r hr => ?_⟩
  unfold PL.spec_ParentOf_l4 at hr
  split at hr
  · obtain ⟨x, hx, rfl⟩ := ResA.val_some hr
    exact lp_sound (K := K.spec_ParentOf_l4) (L := L.spec_ParentOf_l4) (b := M.spec_ParentOf_l4_b _ _) (tm := T.spec_ParentOf_l4 _ _) (tx := (A.spec_ParentOf_l4 _ _).enc) knil_ok (by rw [LC.spec_ParentOf_l4]; exact (LOk.cons (LpOk.at (C.spec_ParentOf_l7) (fun _ => rfl)) LOk.nil)) (fun s => by rw [E.spec_ParentOf_l4, M.spec_ParentOf_l4_n]; congr 1; funext r; cases r <;> first | rfl | exact Alt.go_eq _ _ _) (by intro t; rcases t with t | t <;> first | (intro h; cases h) | (intro h; cases h)) hx (s := _)
  · cases hr
noncomputable def M.spec_ParentOf_C {R : Type} (l : List Row) (i : Int) (k : Int → Option R) : Option R :=
  (M.spec_ShapeOk l).bind fun r380 =>
   (bif !r380 then (k (-1)) else
    ((M.spec_ParentOf_l4 l i 0).bind fun u393 =>
    sumE u393 (fun t389 => (k t389)) fun u394 =>
     letE u394 fun t390 => (k (-1))))
noncomputable def M.spec_ParentOf (l : List Row) (i : Int) : Option (Int) := M.spec_ParentOf_C l i some
theorem M.spec_ParentOf_n {R : Type} (l : List Row) (i : Int) (k : Int → Option R) : M.spec_ParentOf_C l i k = (M.spec_ParentOf_C l i some).bind k := by
  simp only [M.spec_ParentOf_C, bif_bind, bind_bind, some_bind, none_bind, sumE_bind, optE_bind, letE_bind]
noncomputable def K.spec_ParentOf : KonC := (kcons 44 (P.spec_ShapeOk M.spec_ShapeOk pnil) knil)
noncomputable def L.spec_ParentOf : LoopC := (lcons 4 (PL.spec_ParentOf_l4) lnil)
theorem E.spec_ParentOf {R : Type} (l : List Row) (i : Int) (k : List Row → List Cell → Option R) : bodyC X0 (K.spec_ParentOf) (L.spec_ParentOf) 48 [V.d (D.sl false 5 l), V.d (D.int IntKind.i64 i)] [] k = M.spec_ParentOf_C l i (fun r => k [[D.int IntKind.i64 r]] []) := by kernel_rfl
theorem LC.spec_ParentOf : loops (codeOf X0.P 48) = [loopCode X0.P 48 4] := by kernel_rfl
theorem C.spec_ParentOf : H.spec_ParentOf (M.spec_ParentOf) := by
  intro l i r h
  exact fn_sound (enc := fun r => ([[D.int IntKind.i64 r]], [])) (K := K.spec_ParentOf) (L := L.spec_ParentOf) (by kernel_rfl) (kcons_ok (P.spec_ShapeOk_ok C.spec_ShapeOk pnil_ok) knil_ok) (by rw [LC.spec_ParentOf]; exact (LOk.cons (LpOk.at (C.spec_ParentOf_l4) (fun _ => rfl)) LOk.nil)) (by rw [E.spec_ParentOf, M.spec_ParentOf_n] <;> rfl) h

/-! spec_PathOf -/
def H.spec_PathOf (o : List Row → Int → Option (List Row)) : Prop := ∀ (l : List Row) (i : Int) (r : List Row), o l i = some r → call X0 29 [V.d (D.sl false 5 l), V.d (D.int IntKind.i64 i)] [] = some ([[D.sl true 1 r]], [])
def P.spec_PathOf (o : List Row → Int → Option (List Row)) (q : List V → List Cell → Res (List Row × List Cell)) (a : List V) (c : List Cell) : Res (List Row × List Cell) := match a, c with
  | [V.d (D.sl false 5 l), V.d (D.int IntKind.i64 i)], [] => ⟨List Row, o l i, fun r => ([[D.sl true 1 r]], [])⟩
  | a, c => q a c
theorem P.spec_PathOf_ok {o : List Row → Int → Option (List Row)} {q : List V → List Cell → Res (List Row × List Cell)} (h : H.spec_PathOf o) (hq : FnOk X0 29 q) : FnOk X0 29 (P.spec_PathOf o q) := by
  intro a c r hr
  unfold P.spec_PathOf at hr
  split at hr
  · obtain ⟨x, hx, rfl⟩ := Res.val_some hr
    exact h _ _ x hx
  · exact hq _ _ _ hr
noncomputable def M.spec_PathOf_l8_C {R : Type} (l : List Row) (i : Int) (p : Int) (s : Int × List Row) (kn : Int × List Row → Option R) (ke : Int × Bool × List Row → Option R) : Option R := match s with
  | (k', x') =>
    (idx l p).bind fun row396 =>
     ((cSl 1 row396 4).bind fun rows397 =>
      (bif decide (k' < (↑rows397.length : Int)) then
       ((idx l p).bind fun row398 =>
        ((cSl 1 row398 4).bind fun rows399 =>
         ((idx rows399 k').bind fun row400 =>
          ((cInt IntKind.i64 row400 0).bind fun n401 =>
           (bif n401 == i then
            (bif (([[D.int IntKind.i64 k']].length + x'.length) * 8).ble 140737488355328 then
             (bif ([[D.int IntKind.i64 k']].length + x'.length).ble 140737488355328 then (kn ((IntKind.i64.wrap (k' + 1), [[D.int IntKind.i64 k']] ++ x'))) else none) else none) else (kn ((IntKind.i64.wrap (k' + 1), x')))))))) else (ke ((k', decide (k' < (↑rows397.length : Int)), x')))))
noncomputable def M.spec_PathOf_l8_b (l : List Row) (i : Int) (p : Int) (s : Int × List Row) : Option ((Int × List Row) ⊕ (Int × Bool × List Row)) := M.spec_PathOf_l8_C l i p s (fun s => some (.inl s)) (fun t => some (.inr t))
noncomputable def M.spec_PathOf_l8 (l : List Row) (i : Int) (p : Int) (s : Int × List Row) : Option (Int × Bool × List Row) := loopM (M.spec_PathOf_l8_b l i p) s
theorem M.spec_PathOf_l8_n {R : Type} (l : List Row) (i : Int) (p : Int) (s : Int × List Row) (kn : Int × List Row → Option R) (ke : Int × Bool × List Row → Option R) : M.spec_PathOf_l8_C l i p s kn ke = (M.spec_PathOf_l8_b l i p s).bind fun r => match r with | .inl s => kn s | .inr t => ke t := by
  obtain ⟨k', x'⟩ := s
  all_goals
    simp only [M.spec_PathOf_l8_b, M.spec_PathOf_l8_C, bif_bind, bind_bind, some_bind, none_bind, sumE_bind, optE_bind, letE_bind]
def A.spec_PathOf_l8 (l : List Row) (i : Int) (p : Int) : Alt (Ex × St) := .leaf (Int × Bool × List Row) (fun t => (Ex.exit 2, { tm := [(0, V.d (D.sl false 5 l)), (1, V.d (D.int IntKind.i64 i)), (5, V.own 300000 0), (6, V.d (D.int IntKind.i64 p)), (7, V.d (D.int IntKind.i64 t.fst)), (36, V.d (D.bool t.snd.fst))], mem := [(300000, Cell.arr false true 0 1 t.snd.snd)] }))
def T.spec_PathOf_l8 (l : List Row) (i : Int) (p : Int) (s : Int × List Row) : St := match s with
  | (k', x') => { tm := [(0, V.d (D.sl false 5 l)), (1, V.d (D.int IntKind.i64 i)), (5, V.own 300000 0), (6, V.d (D.int IntKind.i64 p)), (7, V.d (D.int IntKind.i64 k'))], mem := [(300000, Cell.arr false true 0 1 x')] }
noncomputable def K.spec_PathOf_l8 : KonC := knil
noncomputable def L.spec_PathOf_l8 : LoopC := lnil
theorem E.spec_PathOf_l8 {R : Type} (l : List Row) (i : Int) (p : Int) (s : Int × List Row) (k : Ex → St → Option R) : denC X0 (K.spec_PathOf_l8) (L.spec_PathOf_l8) 29 (loopCode X0.P 29 8) (T.spec_PathOf_l8 l i p s) k = M.spec_PathOf_l8_C l i p s (fun s => k .normal (T.spec_PathOf_l8 l i p s)) (fun t => (A.spec_PathOf_l8 l i p).go t fun r => k r.1 r.2) := by
  obtain ⟨k', x'⟩ := s
  all_goals kernel_rfl
theorem LC.spec_PathOf_l8 : loops (loopCode X0.P 29 8) = [] := by kernel_rfl
noncomputable def PL.spec_PathOf_l8 (S : St) : ResA (Ex × St) := match S with
  | { tm := [(0, V.d (D.sl false 5 l)), (1, V.d (D.int IntKind.i64 i)), (5, V.own 300000 0), (6, V.d (D.int IntKind.i64 p)), (7, V.d (D.int IntKind.i64 k'))], mem := [(300000, Cell.arr false true 0 1 x')] } => ⟨A.spec_PathOf_l8 l i p, M.spec_PathOf_l8 l i p ((k', x'))⟩
  | _ => .none
theorem C.spec_PathOf_l8 : LpOk X0 29 8 (loopCode X0.P 29 8) (PL.spec_PathOf_l8) := by
  refine ⟨by kernel_rfl, fun S r hr => ?_⟩
  unfold PL.spec_PathOf_l8 at hr
  split at hr
  · obtain ⟨x, hx, rfl⟩ := ResA.val_some hr
    exact lp_sound (K := K.spec_PathOf_l8) (L := L.spec_PathOf_l8) (b := M.spec_PathOf_l8_b _ _ _) (tm := T.spec_PathOf_l8 _ _ _) (tx := (A.spec_PathOf_l8 _ _ _).enc) knil_ok (by rw [LC.spec_PathOf_l8]; exact LOk.nil) (fun s => by rw [E.spec_PathOf_l8, M.spec_PathOf_l8_n]; congr 1; funext r; cases r <;> first | rfl | exact Alt.go_eq _ _ _) (by intro t; intro h; cases h) hx (s := (_, _))
  · cases hr
noncomputable def M.spec_PathOf_l5_C {R : Type} (l : List Row) (s : Int × Int × List Row) (kn : Int × Int × List Row → Option R) (ke : Int × Int × Bool × List Row → Option R) : Option R := match s with
  | (i, p, x') =>
    bif decide (p ≥ 0) then
     ((M.spec_PathOf_l8 l i p ((0, x'))).bind fun t402 => ((M.spec_ParentOf l p).bind fun r403 => (kn ((p, r403, t402.snd.snd))))) else (ke ((i, p, decide (p ≥ 0), x')))
noncomputable def M.spec_PathOf_l5_b (l : List Row) (s : Int × Int × List Row) : Option ((Int × Int × List Row) ⊕ (Int × Int × Bool × List Row)) := M.spec_PathOf_l5_C l s (fun s => some (.inl s)) (fun t => some (.inr t))
noncomputable def M.spec_PathOf_l5 (l : List Row) (s : Int × Int × List Row) : Option (Int × Int × Bool × List Row) := loopM (M.spec_PathOf_l5_b l) s
theorem M.spec_PathOf_l5_n {R : Type} (l : List Row) (s : Int × Int × List Row) (kn : Int × Int × List Row → Option R) (ke : Int × Int × Bool × List Row → Option R) : M.spec_PathOf_l5_C l s kn ke = (M.spec_PathOf_l5_b l s).bind fun r => match r with | .inl s => kn s | .inr t => ke t := by
  obtain ⟨i, p, x'⟩ := s
  all_goals
    simp only [M.spec_PathOf_l5_b, M.spec_PathOf_l5_C, bif_bind, bind_bind, some_bind, none_bind, sumE_bind, optE_bind, letE_bind]
def A.spec_PathOf_l5 (l : List Row) : Alt (Ex × St) := .leaf (Int × Int × Bool × List Row) (fun t => (Ex.exit 0, { tm := [(0, V.d (D.sl false 5 l)), (1, V.d (D.int IntKind.i64 t.fst)), (5, V.own 300000 0), (6, V.d (D.int IntKind.i64 t.snd.fst)), (25, V.d (D.bool t.snd.snd.fst))], mem := [(300000, Cell.arr false true 0 1 t.snd.snd.snd)] }))
def T.spec_PathOf_l5 (l : List Row) (s : Int × Int × List Row) : St := match s with
  | (i, p, x') => { tm := [(0, V.d (D.sl false 5 l)), (1, V.d (D.int IntKind.i64 i)), (5, V.own 300000 0), (6, V.d (D.int IntKind.i64 p))], mem := [(300000, Cell.arr false true 0 1 x')] }
noncomputable def K.spec_PathOf_l5 : KonC := (kcons 48 (P.spec_ParentOf M.spec_ParentOf pnil) knil)
noncomputable def L.spec_PathOf_l5 : LoopC := (lcons 8 (PL.spec_PathOf_l8) lnil)
theorem E.spec_PathOf_l5 {R : Type} (l : List Row) (s : Int × Int × List Row) (k : Ex → St → Option R) : denC X0 (K.spec_PathOf_l5) (L.spec_PathOf_l5) 29 (loopCode X0.P 29 5) (T.spec_PathOf_l5 l s) k = M.spec_PathOf_l5_C l s (fun s => k .normal (T.spec_PathOf_l5 l s)) (fun t => (A.spec_PathOf_l5 l).go t fun r => k r.1 r.2) := by
  obtain ⟨i, p, x'⟩ := s
  all_goals kernel_rfl
theorem LC.spec_PathOf_l5 : loops (loopCode X0.P 29 5) = [loopCode X0.P 29 8] := by kernel_rfl
noncomputable def PL.spec_PathOf_l5 (S : St) : ResA (Ex × St) := match S with
  | { tm := [(0, V.d (D.sl false 5 l)), (1, V.d (D.int IntKind.i64 i)), (5, V.own 300000 0), (6, V.d (D.int IntKind.i64 p))], mem := [(300000, Cell.arr false true 0 1 x')] } => ⟨A.spec_PathOf_l5 l, M.spec_PathOf_l5 l ((i, p, x'))⟩
  | _ => .none
theorem C.spec_PathOf_l5 : LpOk X0 29 5 (loopCode X0.P 29 5) (PL.spec_PathOf_l5) := by
  refine ⟨by kernel_rfl, fun S r hr => ?_⟩
  unfold PL.spec_PathOf_l5 at hr
  split at hr
  · obtain ⟨x, hx, rfl⟩ := ResA.val_some hr
    exact lp_sound (K := K.spec_PathOf_l5) (L := L.spec_PathOf_l5) (b := M.spec_PathOf_l5_b _) (tm := T.spec_PathOf_l5 _) (tx := (A.spec_PathOf_l5 _).enc) (kcons_ok (P.spec_ParentOf_ok C.spec_ParentOf pnil_ok) knil_ok) (by rw [LC.spec_PathOf_l5]; exact (LOk.cons (LpOk.at (C.spec_PathOf_l8) (fun _ => rfl)) LOk.nil)) (fun s => by rw [E.spec_PathOf_l5, M.spec_PathOf_l5_n]; congr 1; funext r; cases r <;> first | rfl | exact Alt.go_eq _ _ _) (by intro t; intro h; cases h) hx (s := (_, _, _))
  · cases hr
noncomputable def M.spec_PathOf_C {R : Type} (l : List Row) (i : Int) (k : List Row → Option R) : Option R :=
  (M.spec_ShapeOk l).bind fun r378 =>
   (bif !r378 then (k []) else
    ((M.spec_l1In i 0 (IntKind.i64.wrap ((↑l.length : Int) - 1))).bind fun r379 =>
     (bif !r379 then (k []) else
      ((M.spec_ParentOf l i).bind fun r395 =>
       ((M.spec_PathOf_l5 l ((i, r395, []))).bind fun t404 => (bif flatRows t404.snd.snd.snd then (k t404.snd.snd.snd) else none))))))
noncomputable def M.spec_PathOf (l : List Row) (i : Int) : Option (List Row) := M.spec_PathOf_C l i some
theorem M.spec_PathOf_n {R : Type} (l : List Row) (i : Int) (k : List Row → Option R) : M.spec_PathOf_C l i k = (M.spec_PathOf_C l i some).bind k := by
  simp only [M.spec_PathOf_C, bif_bind, bind_bind, some_bind, none_bind, sumE_bind, optE_bind, letE_bind]
noncomputable def K.spec_PathOf : KonC := (kcons 44 (P.spec_ShapeOk M.spec_ShapeOk pnil) (kcons 34 (P.spec_l1In M.spec_l1In pnil) (kcons 48 (P.spec_ParentOf M.spec_ParentOf pnil) knil)))
noncomputable def L.spec_PathOf : LoopC := (lcons 5 (PL.spec_PathOf_l5) lnil)
theorem E.spec_PathOf {R : Type} (l : List Row) (i : Int) (k : List Row → List Cell → Option R) : bodyC X0 (K.spec_PathOf) (L.spec_PathOf) 29 [V.d (D.sl false 5 l), V.d (D.int IntKind.i64 i)] [] k = M.spec_PathOf_C l i (fun r => k [[D.sl true 1 r]] []) := by kernel_rfl
theorem LC.spec_PathOf : loops (codeOf X0.P 29) = [loopCode X0.P 29 5] := by kernel_rfl
theorem C.spec_PathOf : H.spec_PathOf (M.spec_PathOf) := by
  intro l i r h
  exact fn_sound (enc := fun r => ([[D.sl true 1 r]], [])) (K := K.spec_PathOf) (L := L.spec_PathOf) (by kernel_rfl) (kcons_ok (P.spec_ShapeOk_ok C.spec_ShapeOk pnil_ok) (kcons_ok (P.spec_l1In_ok C.spec_l1In pnil_ok) (kcons_ok (P.spec_ParentOf_ok C.spec_ParentOf pnil_ok) knil_ok))) (by rw [LC.spec_PathOf]; exact (LOk.cons (LpOk.at (C.spec_PathOf_l5) (fun _ => rfl)) LOk.nil)) (by rw [E.spec_PathOf, M.spec_PathOf_n] <;> rfl) h

/-! impl_pathTo -/
def H.impl_pathTo (o : List Row → Int → Int → Option (List Row × Bool)) : Prop := ∀ (l : List Row) (from' : Int) (i : Int) (r : List Row × Bool), o l from' i = some r → call X0 49 [V.d (D.sl false 5 l), V.d (D.int IntKind.i64 from'), V.d (D.int IntKind.i64 i)] [] = some ([[D.sl true 1 r.fst], [D.bool r.snd]], [])
def P.impl_pathTo (o : List Row → Int → Int → Option (List Row × Bool)) (q : List V → List Cell → Res (List Row × List Cell)) (a : List V) (c : List Cell) : Res (List Row × List Cell) := match a, c with
  | [V.d (D.sl false 5 l), V.d (D.int IntKind.i64 from'), V.d (D.int IntKind.i64 i)], [] => ⟨List Row × Bool, o l from' i, fun r => ([[D.sl true 1 r.fst], [D.bool r.snd]], [])⟩
  | a, c => q a c
theorem P.impl_pathTo_ok {o : List Row → Int → Int → Option (List Row × Bool)} {q : List V → List Cell → Res (List Row × List Cell)} (h : H.impl_pathTo o) (hq : FnOk X0 49 q) : FnOk X0 49 (P.impl_pathTo o q) := by
  intro a c r hr
  unfold P.impl_pathTo at hr
  split at hr
  · obtain ⟨x, hx, rfl⟩ := Res.val_some hr
    exact h _ _ _ x hx
  · exact hq _ _ _ hr
noncomputable def M.impl_pathTo_l4_C {R : Type} (rec_impl_pathTo : List Row → Int → Int → Option (List Row × Bool)) (l : List Row) (i : Int) (v20 : List Row) (v21 : Int) (s : Int) (kn : Int → Option R) (ke : (List Row) ⊕ (Int × Bool) → Option R) : Option R := match s with
  | v22 =>
    bif decide (v22 < v21) then
     ((idx v20 v22).bind fun row411 =>
      ((cInt IntKind.i64 row411 0).bind fun n412 =>
       ((rec_impl_pathTo l n412 i).bind fun r413 =>
        (bif r413.snd then
         (bif (([[D.int IntKind.i64 v22]].length + r413.fst.length) * 8).ble 140737488355328 then
          (bif ([[D.int IntKind.i64 v22]].length + r413.fst.length).ble 140737488355328 then (ke (.inl ([[D.int IntKind.i64 v22]] ++ r413.fst))) else none) else none) else (kn (IntKind.i64.wrap (v22 + 1))))))) else (ke (.inr ((v22, decide (v22 < v21)))))
noncomputable def M.impl_pathTo_l4_b (rec_impl_pathTo : List Row → Int → Int → Option (List Row × Bool)) (l : List Row) (i : Int) (v20 : List Row) (v21 : Int) (s : Int) : Option ((Int) ⊕ ((List Row) ⊕ (Int × Bool))) := M.impl_pathTo_l4_C rec_impl_pathTo l i v20 v21 s (fun s => some (.inl s)) (fun t => some (.inr t))
noncomputable def M.impl_pathTo_l4 (rec_impl_pathTo : List Row → Int → Int → Option (List Row × Bool)) (l : List Row) (i : Int) (v20 : List Row) (v21 : Int) (s : Int) : Option ((List Row) ⊕ (Int × Bool)) := loopM (M.impl_pathTo_l4_b rec_impl_pathTo l i v20 v21) s
theorem M.impl_pathTo_l4_n {R : Type} (rec_impl_pathTo : List Row → Int → Int → Option (List Row × Bool)) (l : List Row) (i : Int) (v20 : List Row) (v21 : Int) (s : Int) (kn : Int → Option R) (ke : (List Row) ⊕ (Int × Bool) → Option R) : M.impl_pathTo_l4_C rec_impl_pathTo l i v20 v21 s kn ke = (M.impl_pathTo_l4_b rec_impl_pathTo l i v20 v21 s).bind fun r => match r with | .inl s => kn s | .inr t => ke t := by
  skip
  all_goals
    simp only [M.impl_pathTo_l4_b, M.impl_pathTo_l4_C, bif_bind, bind_bind, some_bind, none_bind, sumE_bind, optE_bind, letE_bind]
def A.impl_pathTo_l4 (l : List Row) (i : Int) (v20 : List Row) (v21 : Int) : Alt (Ex × St) := .sum (.leaf (List Row) (fun t => (Ex.ret, { tm := [(6, V.own 300000 0), (7, V.d (D.bool true))], mem := [(300000, Cell.arr false true 0 1 t)] }))) (.leaf (Int × Bool) (fun t => (Ex.exit 0, { tm := [(0, V.d (D.sl false 5 l)), (2, V.d (D.int IntKind.i64 i)), (20, V.d (D.sl false 1 v20)), (21, V.d (D.int IntKind.i64 v21)), (22, V.d (D.int IntKind.i64 t.fst)), (23, V.d (D.bool t.snd))], mem := [] })))
def T.impl_pathTo_l4 (l : List Row) (i : Int) (v20 : List Row) (v21 : Int) (s : Int) : St := match s with
  | v22 => { tm := [(0, V.d (D.sl false 5 l)), (2, V.d (D.int IntKind.i64 i)), (20, V.d (D.sl false 1 v20)), (21, V.d (D.int IntKind.i64 v21)), (22, V.d (D.int IntKind.i64 v22))], mem := [] }
noncomputable def K.impl_pathTo_l4 (rec_impl_pathTo : List Row → Int → Int → Option (List Row × Bool)) : KonC := (kcons 49 (P.impl_pathTo rec_impl_pathTo pnil) knil)
noncomputable def L.impl_pathTo_l4 (rec_impl_pathTo : List Row → Int → Int → Option (List Row × Bool)) : LoopC := lnil
theorem E.impl_pathTo_l4 {R : Type} (rec_impl_pathTo : List Row → Int → Int → Option (List Row × Bool)) (l : List Row) (i : Int) (v20 : List Row) (v21 : Int) (s : Int) (k : Ex → St → Option R) : denC X0 (K.impl_pathTo_l4 rec_impl_pathTo) (L.impl_pathTo_l4 rec_impl_pathTo) 49 (loopCode X0.P 49 4) (T.impl_pathTo_l4 l i v20 v21 s) k = M.impl_pathTo_l4_C rec_impl_pathTo l i v20 v21 s (fun s => k .normal (T.impl_pathTo_l4 l i v20 v21 s)) (fun t => (A.impl_pathTo_l4 l i v20 v21).go t fun r => k r.1 r.2) := by
  skip
  all_goals kernel_rfl
theorem LC.impl_pathTo_l4 : loops (loopCode X0.P 49 4) = [] := by kernel_rfl
noncomputable def PL.impl_pathTo_l4 (rec_impl_pathTo : List Row → Int → Int → Option (List Row × Bool)) (S : St) : ResA (Ex × St) := match S with
  | { tm := [(0, V.d (D.sl false 5 l)), (2, V.d (D.int IntKind.i64 i)), (20, V.d (D.sl false 1 v20)), (21, V.d (D.int IntKind.i64 v21)), (22, V.d (D.int IntKind.i64 v22))], mem := [] } => ⟨A.impl_pathTo_l4 l i v20 v21, M.impl_pathTo_l4 rec_impl_pathTo l i v20 v21 v22⟩
  | _ => .none
theorem C.impl_pathTo_l4 {rec_impl_pathTo : List Row → Int → Int → Option (List Row × Bool)} (h_impl_pathTo : H.impl_pathTo rec_impl_pathTo) : LpOk X0 49 4 (loopCode X0.P 49 4) (PL.impl_pathTo_l4 rec_impl_pathTo) := by
  refine ⟨by kernel_rfl, fun S r hr => ?_⟩
  unfold PL.impl_pathTo_l4 at hr
  split at hr
  · obtain ⟨x, hx, rfl⟩ := ResA.val_some hr
    exact lp_sound (K := K.impl_pathTo_l4 rec_impl_pathTo) (L := L.impl_pathTo_l4 rec_impl_pathTo) (b := M.impl_pathTo_l4_b rec_impl_pathTo _ _ _ _) (tm := T.impl_pathTo_l4 _ _ _ _) (tx := (A.impl_pathTo_l4 _ _ _ _).enc) (kcons_ok (P.impl_pathTo_ok h_impl_pathTo pnil_ok) knil_ok) (by rw [LC.impl_pathTo_l4]; exact LOk.nil) (fun s => by rw [E.impl_pathTo_l4, M.impl_pathTo_l4_n]; congr 1; funext r; cases r <;> first | rfl | exact Alt.go_eq _ _ _) (by intro t; rcases t with t | t <;> first | (intro h; cases h) | (intro h; cases h)) hx (s := _)
  · cases hr
noncomputable def M.impl_pathTo_C {R : Type} (rec_impl_pathTo : List Row → Int → Int → Option (List Row × Bool)) (l : List Row) (from' : Int) (i : Int) (k : List Row × Bool → Option R) : Option R :=
  bif from' == i then (k (([], true))) else
   ((idx l from').bind fun row409 =>
    ((cSl 1 row409 4).bind fun rows410 =>
     ((M.impl_pathTo_l4 rec_impl_pathTo l i rows410 ((↑rows410.length : Int)) 0).bind fun u416 =>
     sumE u416 (fun t414 => (bif flatRows t414 then (k ((t414, true))) else none)) fun u417 =>
      letE u417 fun t415 => (k (([], false))))))
noncomputable def M.impl_pathTo_N : Nat → List Row → Int → Int → Option (List Row × Bool)
  | 0 => fun _ _ _ => none
  | n + 1 => fun l from' i => M.impl_pathTo_C (M.impl_pathTo_N n) l from' i some
noncomputable def M.impl_pathTo (l : List Row) (from' : Int) (i : Int) : Option (List Row × Bool) := lim fun n => M.impl_pathTo_N n l from' i
theorem M.impl_pathTo_n {R : Type} (rec_impl_pathTo : List Row → Int → Int → Option (List Row × Bool)) (l : List Row) (from' : Int) (i : Int) (k : List Row × Bool → Option R) : M.impl_pathTo_C rec_impl_pathTo l from' i k = (M.impl_pathTo_C rec_impl_pathTo l from' i some).bind k := by
  simp only [M.impl_pathTo_C, bif_bind, bind_bind, some_bind, none_bind, sumE_bind, optE_bind, letE_bind]
noncomputable def K.impl_pathTo (rec_impl_pathTo : List Row → Int → Int → Option (List Row × Bool)) : KonC := knil
noncomputable def L.impl_pathTo (rec_impl_pathTo : List Row → Int → Int → Option (List Row × Bool)) : LoopC := (lcons 4 (PL.impl_pathTo_l4 rec_impl_pathTo) lnil)
theorem E.impl_pathTo {R : Type} (rec_impl_pathTo : List Row → Int → Int → Option (List Row × Bool)) (l : List Row) (from' : Int) (i : Int) (k : List Row → List Cell → Option R) : bodyC X0 (K.impl_pathTo rec_impl_pathTo) (L.impl_pathTo rec_impl_pathTo) 49 [V.d (D.sl false 5 l), V.d (D.int IntKind.i64 from'), V.d (D.int IntKind.i64 i)] [] k = M.impl_pathTo_C rec_impl_pathTo l from' i (fun r => k [[D.sl true 1 r.fst], [D.bool r.snd]] []) := by kernel_rfl
theorem LC.impl_pathTo : loops (codeOf X0.P 49) = [loopCode X0.P 49 4] := by kernel_rfl
theorem C.impl_pathTo_1 {rec_impl_pathTo : List Row → Int → Int → Option (List Row × Bool)} (h_impl_pathTo : H.impl_pathTo rec_impl_pathTo) : H.impl_pathTo (fun l from' i => M.impl_pathTo_C rec_impl_pathTo l from' i some) := by
  intro l from' i r h
  exact fn_sound (enc := fun r => ([[D.sl true 1 r.fst], [D.bool r.snd]], [])) (K := K.impl_pathTo rec_impl_pathTo) (L := L.impl_pathTo rec_impl_pathTo) (by kernel_rfl) knil_ok (by rw [LC.impl_pathTo]; exact (LOk.cons (LpOk.at (C.impl_pathTo_l4 h_impl_pathTo) (fun _ => rfl)) LOk.nil)) (by rw [E.impl_pathTo, M.impl_pathTo_n] <;> rfl) h
theorem C.impl_pathTo_N : ∀ n, H.impl_pathTo (M.impl_pathTo_N n)
  | 0 => by
    intro l from' i r h
    cases h
  | n + 1 => C.impl_pathTo_1 (C.impl_pathTo_N n)
theorem C.impl_pathTo : H.impl_pathTo (M.impl_pathTo) := by
  intro l from' i r h
  obtain ⟨n, hn⟩ := lim_some h
  exact C.impl_pathTo_N n _ _ _ r hn
theorem M.impl_pathTo_of {n : Nat} {l : List Row} {from' : Int} {i : Int} {r : List Row × Bool} (h : M.impl_pathTo_N n l from' i = some r) : M.impl_pathTo l from' i = some r := by
  refine lim_of h fun m y hy => ?_
  have h1 := C.impl_pathTo_N n _ _ _ r h
  have h2 := C.impl_pathTo_N m _ _ _ y hy
  rw [h1] at h2
  simp at h2
  (first | exact h2.symm | (simp [Prod.ext_iff, h2]))

/-! impl_PathOf -/
def H.impl_PathOf (o : List Row → Int → Option (List Row)) : Prop := ∀ (l : List Row) (i : Int) (r : List Row), o l i = some r → call X0 30 [V.d (D.sl false 5 l), V.d (D.int IntKind.i64 i)] [] = some ([[D.sl true 1 r]], [])
def P.impl_PathOf (o : List Row → Int → Option (List Row)) (q : List V → List Cell → Res (List Row × List Cell)) (a : List V) (c : List Cell) : Res (List Row × List Cell) := match a, c with
  | [V.d (D.sl false 5 l), V.d (D.int IntKind.i64 i)], [] => ⟨List Row, o l i, fun r => ([[D.sl true 1 r]], [])⟩
  | a, c => q a c
theorem P.impl_PathOf_ok {o : List Row → Int → Option (List Row)} {q : List V → List Cell → Res (List Row × List Cell)} (h : H.impl_PathOf o) (hq : FnOk X0 30 q) : FnOk X0 30 (P.impl_PathOf o q) := by
  intro a c r hr
  unfold P.impl_PathOf at hr
  split at hr
  · obtain ⟨x, hx, rfl⟩ := Res.val_some hr
    exact h _ _ x hx
  · exact hq _ _ _ hr
noncomputable def M.impl_PathOf_C {R : Type} (l : List Row) (i : Int) (k : List Row → Option R) : Option R :=
  (M.impl_ShapeOk l).bind fun r407 =>
   (bif !r407 then (k []) else
    ((M.impl_within i 0 (IntKind.i64.wrap ((↑l.length : Int) - 1))).bind fun r408 =>
     (bif !r408 then (k []) else
      ((M.impl_pathTo l (IntKind.i64.wrap ((↑l.length : Int) - 1)) i).bind fun r418 => (bif flatRows r418.fst then (k r418.fst) else none)))))
noncomputable def M.impl_PathOf (l : List Row) (i : Int) : Option (List Row) := M.impl_PathOf_C l i some
theorem M.impl_PathOf_n {R : Type} (l : List Row) (i : Int) (k : List Row → Option R) : M.impl_PathOf_C l i k = (M.impl_PathOf_C l i some).bind k := by
  simp only [M.impl_PathOf_C, bif_bind, bind_bind, some_bind, none_bind, sumE_bind, optE_bind, letE_bind]
noncomputable def K.impl_PathOf : KonC := (kcons 45 (P.impl_ShapeOk M.impl_ShapeOk pnil) (kcons 36 (P.impl_within M.impl_within pnil) (kcons 49 (P.impl_pathTo M.impl_pathTo pnil) knil)))
noncomputable def L.impl_PathOf : LoopC := lnil
theorem E.impl_PathOf {R : Type} (l : List Row) (i : Int) (k : List Row → List Cell → Option R) : bodyC X0 (K.impl_PathOf) (L.impl_PathOf) 30 [V.d (D.sl false 5 l), V.d (D.int IntKind.i64 i)] [] k = M.impl_PathOf_C l i (fun r => k [[D.sl true 1 r]] []) := by kernel_rfl
theorem LC.impl_PathOf : loops (codeOf X0.P 30) = [] := by kernel_rfl
theorem C.impl_PathOf : H.impl_PathOf (M.impl_PathOf) := by
  intro l i r h
  exact fn_sound (enc := fun r => ([[D.sl true 1 r]], [])) (K := K.impl_PathOf) (L := L.impl_PathOf) (by kernel_rfl) (kcons_ok (P.impl_ShapeOk_ok C.impl_ShapeOk pnil_ok) (kcons_ok (P.impl_within_ok C.impl_within pnil_ok) (kcons_ok (P.impl_pathTo_ok C.impl_pathTo pnil_ok) knil_ok))) (by rw [LC.impl_PathOf]; exact LOk.nil) (by rw [E.impl_PathOf, M.impl_PathOf_n] <;> rfl) h

/-! laws_FnExactPathOf -/
def H.laws_FnExactPathOf (o : List Row → Int → Option (Bool)) : Prop := ∀ (aL : List Row) (aI : Int) (r : Bool), o aL aI = some r → call X0 7 [V.d (D.sl false 5 aL), V.d (D.int IntKind.i64 aI)] [] = some ([[D.bool r]], [])
def P.laws_FnExactPathOf (o : List Row → Int → Option (Bool)) (q : List V → List Cell → Res (List Row × List Cell)) (a : List V) (c : List Cell) : Res (List Row × List Cell) := match a, c with
  | [V.d (D.sl false 5 aL), V.d (D.int IntKind.i64 aI)], [] => ⟨Bool, o aL aI, fun r => ([[D.bool r]], [])⟩
  | a, c => q a c
theorem P.laws_FnExactPathOf_ok {o : List Row → Int → Option (Bool)} {q : List V → List Cell → Res (List Row × List Cell)} (h : H.laws_FnExactPathOf o) (hq : FnOk X0 7 q) : FnOk X0 7 (P.laws_FnExactPathOf o q) := by
  intro a c r hr
  unfold P.laws_FnExactPathOf at hr
  split at hr
  · obtain ⟨x, hx, rfl⟩ := Res.val_some hr
    exact h _ _ x hx
  · exact hq _ _ _ hr
noncomputable def M.laws_FnExactPathOf_C {R : Type} (aL : List Row) (aI : Int) (k : Bool → Option R) : Option R :=
  (M.laws_szNodeS aL 1048576).bind fun r376 =>
   (bif decide (r376 < 0) then (k true) else
    ((M.laws_toNodeS aL).bind fun r377 =>
     ((M.spec_PathOf (fzRows r377) aI).bind fun r405 =>
      (bif [[D.sl true 1 r405]].all pureRow then
       ((M.laws_toNodeS aL).bind fun r406 =>
        ((M.impl_PathOf (fzRows r406) aI).bind fun r419 =>
         (bif [[D.sl true 1 r419]].all pureRow then
          ((M.laws_eqIntS r419 r405).bind fun r420 =>
           (bif !r420 then (k false) else
            ((M.laws_toNodeS aL).bind fun r421 =>
             ((M.laws_eqNodeS (fzRows r406) (fzRows r421)).bind fun r422 =>
              (bif !r422 then (k false) else
               ((M.laws_markNodeS 1 r406).bind fun r423 =>
                (bif decide (r423.fst < 0) then (k false) else
                 ((M.laws_eqIntS r419 r405).bind fun r424 =>
                  (bif !r424 then (k false) else
                   ((M.laws_markIntS 1 r419).bind fun r425 =>
                    ((M.laws_heldIntS r425.snd 1).bind fun r426 =>
                     (bif decide (r426 < 0) then (k false) else
                      (bif r426 != r425.fst then (k false) else
                       ((M.laws_toNodeS aL).bind fun r427 =>
                        ((M.impl_PathOf (fzRows r427) aI).bind fun r428 =>
                         (bif [[D.sl true 1 r428]].all pureRow then
                          ((M.laws_eqIntS r428 r405).bind fun r429 =>
                           (bif !r429 then (k false) else
                            ((M.laws_heldIntS r425.snd 1).bind fun r430 =>
                             (bif decide (r430 < 0) then (k false) else (bif r430 != r425.fst then (k false) else (k true)))))) else none)))))))))))))))) else none))) else none))))
noncomputable def M.laws_FnExactPathOf (aL : List Row) (aI : Int) : Option (Bool) := M.laws_FnExactPathOf_C aL aI some
theorem M.laws_FnExactPathOf_n {R : Type} (aL : List Row) (aI : Int) (k : Bool → Option R) : M.laws_FnExactPathOf_C aL aI k = (M.laws_FnExactPathOf_C aL aI some).bind k := by
  simp only [M.laws_FnExactPathOf_C, bif_bind, bind_bind, some_bind, none_bind, sumE_bind, optE_bind, letE_bind]
noncomputable def K.laws_FnExactPathOf : KonC := (kcons 9 (P.laws_szNodeS M.laws_szNodeS pnil) (kcons 11 (P.laws_toNodeS M.laws_toNodeS pnil) (kcons 29 (P.spec_PathOf M.spec_PathOf pnil) (kcons 30 (P.impl_PathOf M.impl_PathOf pnil) (kcons 18 (P.laws_eqIntS M.laws_eqIntS pnil) (kcons 13 (P.laws_eqNodeS M.laws_eqNodeS pnil) (kcons 28 (P.laws_markNodeS M.laws_markNodeS pnil) (kcons 21 (P.laws_markIntS M.laws_markIntS pnil) (kcons 22 (P.laws_heldIntS M.laws_heldIntS pnil) knil)))))))))
noncomputable def L.laws_FnExactPathOf : LoopC := lnil
theorem E.laws_FnExactPathOf {R : Type} (aL : List Row) (aI : Int) (k : List Row → List Cell → Option R) : bodyC X0 (K.laws_FnExactPathOf) (L.laws_FnExactPathOf) 7 [V.d (D.sl false 5 aL), V.d (D.int IntKind.i64 aI)] [] k = M.laws_FnExactPathOf_C aL aI (fun r => k [[D.bool r]] []) := by kernel_rfl
theorem LC.laws_FnExactPathOf : loops (codeOf X0.P 7) = [] := by kernel_rfl
theorem C.laws_FnExactPathOf : H.laws_FnExactPathOf (M.laws_FnExactPathOf) := by
  intro aL aI r h
  exact fn_sound (enc := fun r => ([[D.bool r]], [])) (K := K.laws_FnExactPathOf) (L := L.laws_FnExactPathOf) (by kernel_rfl) (kcons_ok (P.laws_szNodeS_ok C.laws_szNodeS pnil_ok) (kcons_ok (P.laws_toNodeS_ok C.laws_toNodeS pnil_ok) (kcons_ok (P.spec_PathOf_ok C.spec_PathOf pnil_ok) (kcons_ok (P.impl_PathOf_ok C.impl_PathOf pnil_ok) (kcons_ok (P.laws_eqIntS_ok C.laws_eqIntS pnil_ok) (kcons_ok (P.laws_eqNodeS_ok C.laws_eqNodeS pnil_ok) (kcons_ok (P.laws_markNodeS_ok C.laws_markNodeS pnil_ok) (kcons_ok (P.laws_markIntS_ok C.laws_markIntS pnil_ok) (kcons_ok (P.laws_heldIntS_ok C.laws_heldIntS pnil_ok) knil_ok))))))))) (by rw [LC.laws_FnExactPathOf]; exact LOk.nil) (by rw [E.laws_FnExactPathOf, M.laws_FnExactPathOf_n] <;> rfl) h

/-! spec_l44Apart -/
def H.spec_l44Apart (o : List Row → Int → List Row → Int → Option (List Row × Bool)) : Prop := ∀ (a : List Row) (i : Int) (b : List Row) (j : Int) (r : List Row × Bool), o a i b j = some r → call X0 50 [V.d (D.sl false 5 a), V.d (D.int IntKind.i64 i), V.d (D.sl false 5 b), V.d (D.int IntKind.i64 j)] [] = some ([[D.sl true 1 r.fst], [D.bool r.snd]], [])
def P.spec_l44Apart (o : List Row → Int → List Row → Int → Option (List Row × Bool)) (q : List V → List Cell → Res (List Row × List Cell)) (a : List V) (c : List Cell) : Res (List Row × List Cell) := match a, c with
  | [V.d (D.sl false 5 a), V.d (D.int IntKind.i64 i), V.d (D.sl false 5 b), V.d (D.int IntKind.i64 j)], [] => ⟨List Row × Bool, o a i b j, fun r => ([[D.sl true 1 r.fst], [D.bool r.snd]], [])⟩
  | a, c => q a c
theorem P.spec_l44Apart_ok {o : List Row → Int → List Row → Int → Option (List Row × Bool)} {q : List V → List Cell → Res (List Row × List Cell)} (h : H.spec_l44Apart o) (hq : FnOk X0 50 q) : FnOk X0 50 (P.spec_l44Apart o q) := by
  intro a c r hr
  unfold P.spec_l44Apart at hr
  split at hr
  · obtain ⟨x, hx, rfl⟩ := Res.val_some hr
    exact h _ _ _ _ x hx
  · exact hq _ _ _ hr
noncomputable def M.spec_l44Apart_l6_C {R : Type} (rec_spec_l44Apart : List Row → Int → List Row → Int → Option (List Row × Bool)) (a : List Row) (b : List Row) (x' : Int) (x'1 : Int) (x'2 : List UInt8) (x'3 : List UInt8) (x'4 : List Row) (x'5 : Int) (x'6 : Int) (x'7 : List UInt8) (x'8 : List UInt8) (x'9 : List Row) (s : Int) (kn : Int → Option R) (ke : (List Row) ⊕ (Int × Bool) → Option R) : Option R := match s with
  | k' =>
    bif decide (k' < (↑x'4.length : Int)) then
     ((idx x'4 k').bind fun row449 =>
      ((cInt IntKind.i64 row449 0).bind fun n450 =>
       ((idx x'9 k').bind fun row451 =>
        ((cInt IntKind.i64 row451 0).bind fun n452 =>
         ((rec_spec_l44Apart a n450 b n452).bind fun r453 =>
          (bif r453.snd then
           (bif (([[D.int IntKind.i64 k']].length + r453.fst.length) * 8).ble 140737488355328 then
            (bif ([[D.int IntKind.i64 k']].length + r453.fst.length).ble 140737488355328 then (ke (.inl ([[D.int IntKind.i64 k']] ++ r453.fst))) else none) else none) else (kn (IntKind.i64.wrap (k' + 1))))))))) else (ke (.inr ((k', decide (k' < (↑x'4.length : Int))))))
noncomputable def M.spec_l44Apart_l6_b (rec_spec_l44Apart : List Row → Int → List Row → Int → Option (List Row × Bool)) (a : List Row) (b : List Row) (x' : Int) (x'1 : Int) (x'2 : List UInt8) (x'3 : List UInt8) (x'4 : List Row) (x'5 : Int) (x'6 : Int) (x'7 : List UInt8) (x'8 : List UInt8) (x'9 : List Row) (s : Int) : Option ((Int) ⊕ ((List Row) ⊕ (Int × Bool))) := M.spec_l44Apart_l6_C rec_spec_l44Apart a b x' x'1 x'2 x'3 x'4 x'5 x'6 x'7 x'8 x'9 s (fun s => some (.inl s)) (fun t => some (.inr t))
noncomputable def M.spec_l44Apart_l6 (rec_spec_l44Apart : List Row → Int → List Row → Int → Option (List Row × Bool)) (a : List Row) (b : List Row) (x' : Int) (x'1 : Int) (x'2 : List UInt8) (x'3 : List UInt8) (x'4 : List Row) (x'5 : Int) (x'6 : Int) (x'7 : List UInt8) (x'8 : List UInt8) (x'9 : List Row) (s : Int) : Option ((List Row) ⊕ (Int × Bool)) := loopM (M.spec_l44Apart_l6_b rec_spec_l44Apart a b x' x'1 x'2 x'3 x'4 x'5 x'6 x'7 x'8 x'9) s
theorem M.spec_l44Apart_l6_n {R : Type} (rec_spec_l44Apart : List Row → Int → List Row → Int → Option (List Row × Bool)) (a : List Row) (b : List Row) (x' : Int) (x'1 : Int) (x'2 : List UInt8) (x'3 : List UInt8) (x'4 : List Row) (x'5 : Int) (x'6 : Int) (x'7 : List UInt8) (x'8 : List UInt8) (x'9 : List Row) (s : Int) (kn : Int → Option R) (ke : (List Row) ⊕ (Int × Bool) → Option R) : M.spec_l44Apart_l6_C rec_spec_l44Apart a b x' x'1 x'2 x'3 x'4 x'5 x'6 x'7 x'8 x'9 s kn ke = (M.spec_l44Apart_l6_b rec_spec_l44Apart a b x' x'1 x'2 x'3 x'4 x'5 x'6 x'7 x'8 x'9 s).bind fun r => match r with | .inl s => kn s | .inr t => ke t := by
  skip
  all_goals
    simp only [M.spec_l44Apart_l6_b, M.spec_l44Apart_l6_C, bif_bind, bind_bind, some_bind, none_bind, sumE_bind, optE_bind, letE_bind]
def A.spec_l44Apart_l6 (a : List Row) (b : List Row) (x' : Int) (x'1 : Int) (x'2 : List UInt8) (x'3 : List UInt8) (x'4 : List Row) (x'5 : Int) (x'6 : Int) (x'7 : List UInt8) (x'8 : List UInt8) (x'9 : List Row) : Alt (Ex × St) := .sum (.leaf (List Row) (fun t => (Ex.ret, { tm := [(8, V.own 300000 0), (9, V.d (D.bool true))], mem := [(300000, Cell.arr false true 0 1 t)] }))) (.leaf (Int × Bool) (fun t => (Ex.exit 0, { tm := [(0, V.d (D.sl false 5 a)), (2, V.d (D.sl false 5 b)), (10, V.ptr 300000 0), (11, V.ptr 300001 0), (12, V.d (D.int IntKind.i64 t.fst)), (63, V.d (D.bool t.snd))], mem := [(300000, Cell.box 53 [V.d (D.int IntKind.i64 x'), V.d (D.int IntKind.i64 x'1), V.d (D.str x'2), V.d (D.str x'3), V.d (D.sl false 1 x'4)]), (300001, Cell.box 53 [V.d (D.int IntKind.i64 x'5), V.d (D.int IntKind.i64 x'6), V.d (D.str x'7), V.d (D.str x'8), V.d (D.sl false 1 x'9)])] })))
def T.spec_l44Apart_l6 (a : List Row) (b : List Row) (x' : Int) (x'1 : Int) (x'2 : List UInt8) (x'3 : List UInt8) (x'4 : List Row) (x'5 : Int) (x'6 : Int) (x'7 : List UInt8) (x'8 : List UInt8) (x'9 : List Row) (s : Int) : St := match s with
  | k' => { tm := [(0, V.d (D.sl false 5 a)), (2, V.d (D.sl false 5 b)), (10, V.ptr 300000 0), (11, V.ptr 300001 0), (12, V.d (D.int IntKind.i64 k'))], mem := [(300000, Cell.box 53 [V.d (D.int IntKind.i64 x'), V.d (D.int IntKind.i64 x'1), V.d (D.str x'2), V.d (D.str x'3), V.d (D.sl false 1 x'4)]), (300001, Cell.box 53 [V.d (D.int IntKind.i64 x'5), V.d (D.int IntKind.i64 x'6), V.d (D.str x'7), V.d (D.str x'8), V.d (D.sl false 1 x'9)])] }
noncomputable def K.spec_l44Apart_l6 (rec_spec_l44Apart : List Row → Int → List Row → Int → Option (List Row × Bool)) : KonC := (kcons 50 (P.spec_l44Apart rec_spec_l44Apart pnil) knil)
noncomputable def L.spec_l44Apart_l6 (rec_spec_l44Apart : List Row → Int → List Row → Int → Option (List Row × Bool)) : LoopC := lnil
theorem E.spec_l44Apart_l6 {R : Type} (rec_spec_l44Apart : List Row → Int → List Row → Int → Option (List Row × Bool)) (a : List Row) (b : List Row) (x' : Int) (x'1 : Int) (x'2 : List UInt8) (x'3 : List UInt8) (x'4 : List Row) (x'5 : Int) (x'6 : Int) (x'7 : List UInt8) (x'8 : List UInt8) (x'9 : List Row) (s : Int) (k : Ex → St → Option R) : denC X0 (K.spec_l44Apart_l6 rec_spec_l44Apart) (L.spec_l44Apart_l6 rec_spec_l44Apart) 50 (loopCode X0.P 50 6) (T.spec_l44Apart_l6 a b x' x'1 x'2 x'3 x'4 x'5 x'6 x'7 x'8 x'9 s) k = M.spec_l44Apart_l6_C rec_spec_l44Apart a b x' x'1 x'2 x'3 x'4 x'5 x'6 x'7 x'8 x'9 s (fun s => k .normal (T.spec_l44Apart_l6 a b x' x'1 x'2 x'3 x'4 x'5 x'6 x'7 x'8 x'9 s)) (fun t => (A.spec_l44Apart_l6 a b x' x'1 x'2 x'3 x'4 x'5 x'6 x'7 x'8 x'9).go t fun r => k r.1 r.2) := by
  skip
  all_goals kernel_rfl
theorem LC.spec_l44Apart_l6 : loops (loopCode X0.P 50 6) = [] := by kernel_rfl
noncomputable def PL.spec_l44Apart_l6 (rec_spec_l44Apart : List Row → Int → List Row → Int → Option (List Row × Bool)) (S : St) : ResA (Ex × St) := match S with
  | { tm := [(0, V.d (D.sl false 5 a)), (2, V.d (D.sl false 5 b)), (10, V.ptr 300000 0), (11, V.ptr 300001 0), (12, V.d (D.int IntKind.i64 k'))], mem := [(300000, Cell.box 53 [V.d (D.int IntKind.i64 x'), V.d (D.int IntKind.i64 x'1), V.d (D.str x'2), V.d (D.str x'3), V.d (D.sl false 1 x'4)]), (300001, Cell.box 53 [V.d (D.int IntKind.i64 x'5), V.d (D.int IntKind.i64 x'6), V.d (D.str x'7), V.d (D.str x'8), V.d (D.sl false 1 x'9)])] } => ⟨A.spec_l44Apart_l6 a b x' x'1 x'2 x'3 x'4 x'5 x'6 x'7 x'8 x'9, M.spec_l44Apart_l6 rec_spec_l44Apart a b x' x'1 x'2 x'3 x'4 x'5 x'6 x'7 x'8 x'9 k'⟩
  | _ => .none
theorem C.spec_l44Apart_l6 {rec_spec_l44Apart : List Row → Int → List Row → Int → Option (List Row × Bool)} (h_spec_l44Apart : H.spec_l44Apart rec_spec_l44Apart) : LpOk X0 50 6 (loopCode X0.P 50 6) (PL.spec_l44Apart_l6 rec_spec_l44Apart) := by
  refine ⟨by kernel_rfl, fun S r hr => ?_⟩
  unfold PL.spec_l44Apart_l6 at hr
  split at hr
  · obtain ⟨x, hx, rfl⟩ := ResA.val_some hr
    exact lp_sound (K := K.spec_l44Apart_l6 rec_spec_l44Apart) (L := L.spec_l44Apart_l6 rec_spec_l44Apart) (b := M.spec_l44Apart_l6_b rec_spec_l44Apart _ _ _ _ _ _ _ _ _ _ _ _) (tm := T.spec_l44Apart_l6 _ _ _ _ _ _ _ _ _ _ _ _) (tx := (A.spec_l44Apart_l6 _ _ _ _ _ _ _ _ _ _ _ _).enc) (kcons_ok (P.spec_l44Apart_ok h_spec_l44Apart pnil_ok) knil_ok) (by rw [LC.spec_l44Apart_l6]; exact LOk.nil) (fun s => by rw [E.spec_l44Apart_l6, M.spec_l44Apart_l6_n]; congr 1; funext r; cases r <;> first | rfl | exact Alt.go_eq _ _ _) (by intro t; rcases t with t | t <;> first | (intro h; cases h) | (intro h; cases h)) hx (s := _)
  · cases hr
noncomputable def M.spec_l44Apart_C {R : Type} (rec_spec_l44Apart : List Row → Int → List Row → Int → Option (List Row × Bool)) (a : List Row) (i : Int) (b : List Row) (j : Int) (k : List Row × Bool → Option R) : Option R :=
  (idx a i).bind fun row437 =>
   ((cInt IntKind.i64 row437 0).bind fun n438 =>
    ((cInt IntKind.i64 row437 1).bind fun n439 =>
     ((cStr row437 2).bind fun s440 =>
      ((cStr row437 3).bind fun s441 =>
       ((cSl 1 row437 4).bind fun rows442 =>
        ((idx b j).bind fun row443 =>
         ((cInt IntKind.i64 row443 0).bind fun n444 =>
          ((cInt IntKind.i64 row443 1).bind fun n445 =>
           ((cStr row443 2).bind fun s446 =>
            ((cStr row443 3).bind fun s447 =>
             ((cSl 1 row443 4).bind fun rows448 =>
              (bif n438 != n444 then (k (([], true))) else
               (bif n439 != n445 then (k (([], true))) else
                (bif !s440 == s446 then (k (([], true))) else
                 (bif !s441 == s447 then (k (([], true))) else
                  (bif (↑rows442.length : Int) != (↑rows448.length : Int) then (k (([], true))) else
                   ((M.spec_l44Apart_l6 rec_spec_l44Apart a b n438 n439 s440 s441 rows442 n444 n445 s446 s447 rows448 0).bind fun u456 =>
                   sumE u456 (fun t454 => (bif flatRows t454 then (k ((t454, true))) else none)) fun u457 =>
                    letE u457 fun t455 => (k (([], false))))))))))))))))))))
noncomputable def M.spec_l44Apart_N : Nat → List Row → Int → List Row → Int → Option (List Row × Bool)
  | 0 => fun _ _ _ _ => none
  | n + 1 => fun a i b j => M.spec_l44Apart_C (M.spec_l44Apart_N n) a i b j some
noncomputable def M.spec_l44Apart (a : List Row) (i : Int) (b : List Row) (j : Int) : Option (List Row × Bool) := lim fun n => M.spec_l44Apart_N n a i b j
theorem M.spec_l44Apart_n {R : Type} (rec_spec_l44Apart : List Row → Int → List Row → Int → Option (List Row × Bool)) (a : List Row) (i : Int) (b : List Row) (j : Int) (k : List Row × Bool → Option R) : M.spec_l44Apart_C rec_spec_l44Apart a i b j k = (M.spec_l44Apart_C rec_spec_l44Apart a i b j some).bind k := by
  simp only [M.spec_l44Apart_C, bif_bind, bind_bind, some_bind, none_bind, sumE_bind, optE_bind, letE_bind]
noncomputable def K.spec_l44Apart (rec_spec_l44Apart : List Row → Int → List Row → Int → Option (List Row × Bool)) : KonC := knil
noncomputable def L.spec_l44Apart (rec_spec_l44Apart : List Row → Int → List Row → Int → Option (List Row × Bool)) : LoopC := (lcons 6 (PL.spec_l44Apart_l6 rec_spec_l44Apart) lnil)
theorem E.spec_l44Apart {R : Type} (rec_spec_l44Apart : List Row → Int → List Row → Int → Option (List Row × Bool)) (a : List Row) (i : Int) (b : List Row) (j : Int) (k : List Row → List Cell → Option R) : bodyC X0 (K.spec_l44Apart rec_spec_l44Apart) (L.spec_l44Apart rec_spec_l44Apart) 50 [V.d (D.sl false 5 a), V.d (D.int IntKind.i64 i), V.d (D.sl false 5 b), V.d (D.int IntKind.i64 j)] [] k = M.spec_l44Apart_C rec_spec_l44Apart a i b j (fun r => k [[D.sl true 1 r.fst], [D.bool r.snd]] []) := by kernel_rfl
theorem LC.spec_l44Apart : loops (codeOf X0.P 50) = [loopCode X0.P 50 6] := by kernel_rfl
theorem C.spec_l44Apart_1 {rec_spec_l44Apart : List Row → Int → List Row → Int → Option (List Row × Bool)} (h_spec_l44Apart : H.spec_l44Apart rec_spec_l44Apart) : H.spec_l44Apart (fun a i b j => M.spec_l44Apart_C rec_spec_l44Apart a i b j some) := by
  intro a i b j r h
  exact fn_sound (enc := fun r => ([[D.sl true 1 r.fst], [D.bool r.snd]], [])) (K := K.spec_l44Apart rec_spec_l44Apart) (L := L.spec_l44Apart rec_spec_l44Apart) (by kernel_rfl) knil_ok (by rw [LC.spec_l44Apart]; exact (LOk.cons (LpOk.at (C.spec_l44Apart_l6 h_spec_l44Apart) (fun _ => rfl)) LOk.nil)) (by rw [E.spec_l44Apart, M.spec_l44Apart_n] <;> rfl) h
theorem C.spec_l44Apart_N : ∀ n, H.spec_l44Apart (M.spec_l44Apart_N n)
  | 0 => by
    intro a i b j r h
    cases h
  | n + 1 => C.spec_l44Apart_1 (C.spec_l44Apart_N n)
theorem C.spec_l44Apart : H.spec_l44Apart (M.spec_l44Apart) := by
  intro a i b j r h
  obtain ⟨n, hn⟩ := lim_some h
  exact C.spec_l44Apart_N n _ _ _ _ r hn
theorem M.spec_l44Apart_of {n : Nat} {a : List Row} {i : Int} {b : List Row} {j : Int} {r : List Row × Bool} (h : M.spec_l44Apart_N n a i b j = some r) : M.spec_l44Apart a i b j = some r := by
  refine lim_of h fun m y hy => ?_
  have h1 := C.spec_l44Apart_N n _ _ _ _ r h
  have h2 := C.spec_l44Apart_N m _ _ _ _ y hy
  rw [h1] at h2
  simp at h2
  (first | exact h2.symm | (simp [Prod.ext_iff, h2]))

/-! spec_FirstApart -/
def H.spec_FirstApart (o : List Row → List Row → Option (List Row)) : Prop := ∀ (a : List Row) (b : List Row) (r : List Row), o a b = some r → call X0 31 [V.d (D.sl false 5 a), V.d (D.sl false 5 b)] [] = some ([[D.sl true 1 r]], [])
def P.spec_FirstApart (o : List Row → List Row → Option (List Row)) (q : List V → List Cell → Res (List Row × List Cell)) (a : List V) (c : List Cell) : Res (List Row × List Cell) := match a, c with
  | [V.d (D.sl false 5 a), V.d (D.sl false 5 b)], [] => ⟨List Row, o a b, fun r => ([[D.sl true 1 r]], [])⟩
  | a, c => q a c
theorem P.spec_FirstApart_ok {o : List Row → List Row → Option (List Row)} {q : List V → List Cell → Res (List Row × List Cell)} (h : H.spec_FirstApart o) (hq : FnOk X0 31 q) : FnOk X0 31 (P.spec_FirstApart o q) := by
  intro a c r hr
  unfold P.spec_FirstApart at hr
  split at hr
  · obtain ⟨x, hx, rfl⟩ := Res.val_some hr
    exact h _ _ x hx
  · exact hq _ _ _ hr
noncomputable def M.spec_FirstApart_C {R : Type} (a : List Row) (b : List Row) (k : List Row → Option R) : Option R :=
  (M.spec_ShapeOk a).bind fun r435 =>
   (bif !r435 then (k []) else
    ((M.spec_ShapeOk b).bind fun r436 =>
     (bif !r436 then (k []) else
      ((M.spec_l44Apart a (IntKind.i64.wrap ((↑a.length : Int) - 1)) b (IntKind.i64.wrap ((↑b.length : Int) - 1))).bind fun r458 => (bif flatRows r458.fst then (k r458.fst) else none)))))
noncomputable def M.spec_FirstApart (a : List Row) (b : List Row) : Option (List Row) := M.spec_FirstApart_C a b some
theorem M.spec_FirstApart_n {R : Type} (a : List Row) (b : List Row) (k : List Row → Option R) : M.spec_FirstApart_C a b k = (M.spec_FirstApart_C a b some).bind k := by
  simp only [M.spec_FirstApart_C, bif_bind, bind_bind, some_bind, none_bind, sumE_bind, optE_bind, letE_bind]
noncomputable def K.spec_FirstApart : KonC := (kcons 44 (P.spec_ShapeOk M.spec_ShapeOk pnil) (kcons 50 (P.spec_l44Apart M.spec_l44Apart pnil) knil))
noncomputable def L.spec_FirstApart : LoopC := lnil
theorem E.spec_FirstApart {R : Type} (a : List Row) (b : List Row) (k : List Row → List Cell → Option R) : bodyC X0 (K.spec_FirstApart) (L.spec_FirstApart) 31 [V.d (D.sl false 5 a), V.d (D.sl false 5 b)] [] k = M.spec_FirstApart_C a b (fun r => k [[D.sl true 1 r]] []) := by kernel_rfl
theorem LC.spec_FirstApart : loops (codeOf X0.P 31) = [] := by kernel_rfl
theorem C.spec_FirstApart : H.spec_FirstApart (M.spec_FirstApart) := by
  intro a b r h
  exact fn_sound (enc := fun r => ([[D.sl true 1 r]], [])) (K := K.spec_FirstApart) (L := L.spec_FirstApart) (by kernel_rfl) (kcons_ok (P.spec_ShapeOk_ok C.spec_ShapeOk pnil_ok) (kcons_ok (P.spec_l44Apart_ok C.spec_l44Apart pnil_ok) knil_ok)) (by rw [LC.spec_FirstApart]; exact LOk.nil) (by rw [E.spec_FirstApart, M.spec_FirstApart_n] <;> rfl) h

/-! impl_FirstApart -/
def H.impl_FirstApart (o : List Row → List Row → Option (List Row)) : Prop := ∀ (a : List Row) (b : List Row) (r : List Row), o a b = some r → call X0 32 [V.d (D.sl false 5 a), V.d (D.sl false 5 b)] [] = some ([[D.sl true 1 r]], [])
def P.impl_FirstApart (o : List Row → List Row → Option (List Row)) (q : List V → List Cell → Res (List Row × List Cell)) (a : List V) (c : List Cell) : Res (List Row × List Cell) := match a, c with
  | [V.d (D.sl false 5 a), V.d (D.sl false 5 b)], [] => ⟨List Row, o a b, fun r => ([[D.sl true 1 r]], [])⟩
  | a, c => q a c
theorem P.impl_FirstApart_ok {o : List Row → List Row → Option (List Row)} {q : List V → List Cell → Res (List Row × List Cell)} (h : H.impl_FirstApart o) (hq : FnOk X0 32 q) : FnOk X0 32 (P.impl_FirstApart o q) := by
  intro a c r hr
  unfold P.impl_FirstApart at hr
  split at hr
  · obtain ⟨x, hx, rfl⟩ := Res.val_some hr
    exact h _ _ x hx
  · exact hq _ _ _ hr
noncomputable def M.impl_FirstApart_l5_C {R : Type} (a : List Row) (b : List Row) (v26 : Int) (x' : List Row) (x'1 : List Row) (s : Int) (kn : Int → Option R) (ke : (List Row) ⊕ (Int × Bool) → Option R) : Option R := match s with
  | v27 =>
    bif decide (v27 < v26) then
     ((idx x' v27).bind fun row466 =>
      (x'[v27.toNat]?.bind fun row467 =>
       ((cInt IntKind.i64 row467 0).bind fun n468 =>
        ((idx a n468).bind fun row469 =>
         ((cInt IntKind.i64 row469 0).bind fun n470 =>
          ((cInt IntKind.i64 row469 1).bind fun n471 =>
           ((cStr row469 2).bind fun s472 =>
            ((cStr row469 3).bind fun s473 =>
             ((cSl 1 row469 4).bind fun rows474 =>
              ((idx x'1 v27).bind fun row475 =>
               (x'1[v27.toNat]?.bind fun row476 =>
                ((cInt IntKind.i64 row476 0).bind fun n477 =>
                 ((idx b n477).bind fun row478 =>
                  ((cInt IntKind.i64 row478 0).bind fun n479 =>
                   ((cInt IntKind.i64 row478 1).bind fun n480 =>
                    ((cStr row478 2).bind fun s481 =>
                     ((cStr row478 3).bind fun s482 =>
                      ((cSl 1 row478 4).bind fun rows483 =>
                       (bif n470 != n479 then
                        ((idx x' v27).bind fun row484 =>
                         (x'[v27.toNat]?.bind fun row485 =>
                          ((cInt IntKind.i64 row485 0).bind fun n486 => ((M.impl_PathOf a n486).bind fun r487 => (ke (.inl r487)))))) else
                        (bif n471 != n480 then
                         ((idx x' v27).bind fun row488 =>
                          (x'[v27.toNat]?.bind fun row489 =>
                           ((cInt IntKind.i64 row489 0).bind fun n490 => ((M.impl_PathOf a n490).bind fun r491 => (ke (.inl r491)))))) else
                         (bif !s472 == s481 then
                          ((idx x' v27).bind fun row492 =>
                           (x'[v27.toNat]?.bind fun row493 =>
                            ((cInt IntKind.i64 row493 0).bind fun n494 => ((M.impl_PathOf a n494).bind fun r495 => (ke (.inl r495)))))) else
                          (bif !s473 == s482 then
                           ((idx x' v27).bind fun row496 =>
                            (x'[v27.toNat]?.bind fun row497 =>
                             ((cInt IntKind.i64 row497 0).bind fun n498 => ((M.impl_PathOf a n498).bind fun r499 => (ke (.inl r499)))))) else
                           (bif (↑rows474.length : Int) != (↑rows483.length : Int) then
                            ((idx x' v27).bind fun row500 =>
                             (x'[v27.toNat]?.bind fun row501 =>
                              ((cInt IntKind.i64 row501 0).bind fun n502 => ((M.impl_PathOf a n502).bind fun r503 => (ke (.inl r503)))))) else (kn (IntKind.i64.wrap (v27 + 1)))))))))))))))))))))))))) else (ke (.inr ((v27, decide (v27 < v26)))))
noncomputable def M.impl_FirstApart_l5_b (a : List Row) (b : List Row) (v26 : Int) (x' : List Row) (x'1 : List Row) (s : Int) : Option ((Int) ⊕ ((List Row) ⊕ (Int × Bool))) := M.impl_FirstApart_l5_C a b v26 x' x'1 s (fun s => some (.inl s)) (fun t => some (.inr t))
noncomputable def M.impl_FirstApart_l5 (a : List Row) (b : List Row) (v26 : Int) (x' : List Row) (x'1 : List Row) (s : Int) : Option ((List Row) ⊕ (Int × Bool)) := loopM (M.impl_FirstApart_l5_b a b v26 x' x'1) s
theorem M.impl_FirstApart_l5_n {R : Type} (a : List Row) (b : List Row) (v26 : Int) (x' : List Row) (x'1 : List Row) (s : Int) (kn : Int → Option R) (ke : (List Row) ⊕ (Int × Bool) → Option R) : M.impl_FirstApart_l5_C a b v26 x' x'1 s kn ke = (M.impl_FirstApart_l5_b a b v26 x' x'1 s).bind fun r => match r with | .inl s => kn s | .inr t => ke t := by
  skip
  all_goals
    simp only [M.impl_FirstApart_l5_b, M.impl_FirstApart_l5_C, bif_bind, bind_bind, some_bind, none_bind, sumE_bind, optE_bind, letE_bind]
def A.impl_FirstApart_l5 (a : List Row) (b : List Row) (v26 : Int) (x' : List Row) (x'1 : List Row) : Alt (Ex × St) := .sum (.leaf (List Row) (fun t => (Ex.ret, { tm := [(4, V.own 300000 0)], mem := [(300000, Cell.arr false true 0 1 t)] }))) (.leaf (Int × Bool) (fun t => (Ex.exit 0, { tm := [(0, V.d (D.sl false 5 a)), (1, V.d (D.sl false 5 b)), (5, V.own 300000 0), (6, V.own 300001 0), (26, V.d (D.int IntKind.i64 v26)), (27, V.d (D.int IntKind.i64 t.fst)), (28, V.d (D.bool t.snd))], mem := [(300000, Cell.arr false true 0 1 x'), (300001, Cell.arr false true 0 1 x'1)] })))
def T.impl_FirstApart_l5 (a : List Row) (b : List Row) (v26 : Int) (x' : List Row) (x'1 : List Row) (s : Int) : St := match s with
  | v27 => { tm := [(0, V.d (D.sl false 5 a)), (1, V.d (D.sl false 5 b)), (5, V.own 300000 0), (6, V.own 300001 0), (26, V.d (D.int IntKind.i64 v26)), (27, V.d (D.int IntKind.i64 v27))], mem := [(300000, Cell.arr false true 0 1 x'), (300001, Cell.arr false true 0 1 x'1)] }
noncomputable def K.impl_FirstApart_l5 : KonC := (kcons 30 (P.impl_PathOf M.impl_PathOf pnil) knil)
noncomputable def L.impl_FirstApart_l5 : LoopC := lnil
theorem E.impl_FirstApart_l5 {R : Type} (a : List Row) (b : List Row) (v26 : Int) (x' : List Row) (x'1 : List Row) (s : Int) (k : Ex → St → Option R) : denC X0 (K.impl_FirstApart_l5) (L.impl_FirstApart_l5) 32 (loopCode X0.P 32 5) (T.impl_FirstApart_l5 a b v26 x' x'1 s) k = M.impl_FirstApart_l5_C a b v26 x' x'1 s (fun s => k .normal (T.impl_FirstApart_l5 a b v26 x' x'1 s)) (fun t => (A.impl_FirstApart_l5 a b v26 x' x'1).go t fun r => k r.1 r.2) := by
  skip
  all_goals kernel_rfl
theorem LC.impl_FirstApart_l5 : loops (loopCode X0.P 32 5) = [] := by kernel_rfl
noncomputable def PL.impl_FirstApart_l5 (S : St) : ResA (Ex × St) := match S with
  | { tm := [(0, V.d (D.sl false 5 a)), (1, V.d (D.sl false 5 b)), (5, V.own 300000 0), (6, V.own 300001 0), (26, V.d (D.int IntKind.i64 v26)), (27, V.d (D.int IntKind.i64 v27))], mem := [(300000, Cell.arr false true 0 1 x'), (300001, Cell.arr false true 0 1 x'1)] } => ⟨A.impl_FirstApart_l5 a b v26 x' x'1, M.impl_FirstApart_l5 a b v26 x' x'1 v27⟩
  | _ => .none
theorem C.impl_FirstApart_l5 : LpOk X0 32 5 (loopCode X0.P 32 5) (PL.impl_FirstApart_l5) := by
  refine ⟨by kernel_rfl, fun S r hr => ?_⟩
  unfold PL.impl_FirstApart_l5 at hr
  split at hr
  · obtain ⟨x, hx, rfl⟩ := ResA.val_some hr
    exact lp_sound (K := K.impl_FirstApart_l5) (L := L.impl_FirstApart_l5) (b := M.impl_FirstApart_l5_b _ _ _ _ _) (tm := T.impl_FirstApart_l5 _ _ _ _ _) (tx := (A.impl_FirstApart_l5 _ _ _ _ _).enc) (kcons_ok (P.impl_PathOf_ok C.impl_PathOf pnil_ok) knil_ok) (by rw [LC.impl_FirstApart_l5]; exact LOk.nil) (fun s => by rw [E.impl_FirstApart_l5, M.impl_FirstApart_l5_n]; congr 1; funext r; cases r <;> first | rfl | exact Alt.go_eq _ _ _) (by intro t; rcases t with t | t <;> first | (intro h; cases h) | (intro h; cases h)) hx (s := _)
  · cases hr
noncomputable def M.impl_FirstApart_C {R : Type} (a : List Row) (b : List Row) (k : List Row → Option R) : Option R :=
  (M.impl_ShapeOk a).bind fun r462 =>
   (bif !r462 then (k []) else
    ((M.impl_ShapeOk b).bind fun r463 =>
     (bif !r463 then (k []) else
      ((M.impl_Preorder a).bind fun r464 =>
       ((M.impl_Preorder b).bind fun r465 =>
        ((M.impl_FirstApart_l5 a b (bif decide ((↑r465.length : Int) < (↑r464.length : Int)) then (↑r465.length : Int) else (↑r464.length : Int)) r464 r465 0).bind fun u506 =>
        sumE u506 (fun t504 => (bif flatRows t504 then (k t504) else none)) fun u507 =>
         letE u507 fun t505 => (k [])))))))
noncomputable def M.impl_FirstApart (a : List Row) (b : List Row) : Option (List Row) := M.impl_FirstApart_C a b some
theorem M.impl_FirstApart_n {R : Type} (a : List Row) (b : List Row) (k : List Row → Option R) : M.impl_FirstApart_C a b k = (M.impl_FirstApart_C a b some).bind k := by
  simp only [M.impl_FirstApart_C, bif_bind, bind_bind, some_bind, none_bind, sumE_bind, optE_bind, letE_bind]
noncomputable def K.impl_FirstApart : KonC := (kcons 45 (P.impl_ShapeOk M.impl_ShapeOk pnil) (kcons 27 (P.impl_Preorder M.impl_Preorder pnil) knil))
noncomputable def L.impl_FirstApart : LoopC := (lcons 5 (PL.impl_FirstApart_l5) lnil)
theorem E.impl_FirstApart {R : Type} (a : List Row) (b : List Row) (k : List Row → List Cell → Option R) : bodyC X0 (K.impl_FirstApart) (L.impl_FirstApart) 32 [V.d (D.sl false 5 a), V.d (D.sl false 5 b)] [] k = M.impl_FirstApart_C a b (fun r => k [[D.sl true 1 r]] []) := by kernel_rfl
theorem LC.impl_FirstApart : loops (codeOf X0.P 32) = [loopCode X0.P 32 5] := by kernel_rfl
theorem C.impl_FirstApart : H.impl_FirstApart (M.impl_FirstApart) := by
  intro a b r h
  exact fn_sound (enc := fun r => ([[D.sl true 1 r]], [])) (K := K.impl_FirstApart) (L := L.impl_FirstApart) (by kernel_rfl) (kcons_ok (P.impl_ShapeOk_ok C.impl_ShapeOk pnil_ok) (kcons_ok (P.impl_Preorder_ok C.impl_Preorder pnil_ok) knil_ok)) (by rw [LC.impl_FirstApart]; exact (LOk.cons (LpOk.at (C.impl_FirstApart_l5) (fun _ => rfl)) LOk.nil)) (by rw [E.impl_FirstApart, M.impl_FirstApart_n] <;> rfl) h

/-! laws_FnExactFirstApart -/
def H.laws_FnExactFirstApart (o : List Row → List Row → Option (Bool)) : Prop := ∀ (aA : List Row) (aB : List Row) (r : Bool), o aA aB = some r → call X0 8 [V.d (D.sl false 5 aA), V.d (D.sl false 5 aB)] [] = some ([[D.bool r]], [])
def P.laws_FnExactFirstApart (o : List Row → List Row → Option (Bool)) (q : List V → List Cell → Res (List Row × List Cell)) (a : List V) (c : List Cell) : Res (List Row × List Cell) := match a, c with
  | [V.d (D.sl false 5 aA), V.d (D.sl false 5 aB)], [] => ⟨Bool, o aA aB, fun r => ([[D.bool r]], [])⟩
  | a, c => q a c
theorem P.laws_FnExactFirstApart_ok {o : List Row → List Row → Option (Bool)} {q : List V → List Cell → Res (List Row × List Cell)} (h : H.laws_FnExactFirstApart o) (hq : FnOk X0 8 q) : FnOk X0 8 (P.laws_FnExactFirstApart o q) := by
  intro a c r hr
  unfold P.laws_FnExactFirstApart at hr
  split at hr
  · obtain ⟨x, hx, rfl⟩ := Res.val_some hr
    exact h _ _ x hx
  · exact hq _ _ _ hr
noncomputable def M.laws_FnExactFirstApart_C {R : Type} (aA : List Row) (aB : List Row) (k : Bool → Option R) : Option R :=
  (M.laws_szNodeS aA 1048576).bind fun r431 =>
   (bif decide (r431 < 0) then (k true) else
    ((M.laws_szNodeS aB r431).bind fun r432 =>
     (bif decide (r432 < 0) then (k true) else
      ((M.laws_toNodeS aA).bind fun r433 =>
       ((M.laws_toNodeS aB).bind fun r434 =>
        ((M.spec_FirstApart (fzRows r433) (fzRows r434)).bind fun r459 =>
         (bif [[D.sl true 1 r459]].all pureRow then
          ((M.laws_toNodeS aA).bind fun r460 =>
           ((M.laws_toNodeS aB).bind fun r461 =>
            ((M.impl_FirstApart (fzRows r460) (fzRows r461)).bind fun r508 =>
             (bif [[D.sl true 1 r508]].all pureRow then
              ((M.laws_eqIntS r508 r459).bind fun r509 =>
               (bif !r509 then (k false) else
                ((M.laws_toNodeS aA).bind fun r510 =>
                 ((M.laws_eqNodeS (fzRows r460) (fzRows r510)).bind fun r511 =>
                  (bif !r511 then (k false) else
                   ((M.laws_toNodeS aB).bind fun r512 =>
                    ((M.laws_eqNodeS (fzRows r461) (fzRows r512)).bind fun r513 =>
                     (bif !r513 then (k false) else
                      ((M.laws_markNodeS 1 r460).bind fun r514 =>
                       ((M.laws_markNodeS r514.fst r461).bind fun r515 =>
                        (bif decide (r515.fst < 0) then (k false) else
                         ((M.laws_eqIntS r508 r459).bind fun r516 =>
                          (bif !r516 then (k false) else
                           ((M.laws_markIntS 1 r508).bind fun r517 =>
                            ((M.laws_heldIntS r517.snd 1).bind fun r518 =>
                             (bif decide (r518 < 0) then (k false) else
                              (bif r518 != r517.fst then (k false) else
                               ((M.laws_toNodeS aA).bind fun r519 =>
                                ((M.laws_toNodeS aB).bind fun r520 =>
                                 ((M.impl_FirstApart (fzRows r519) (fzRows r520)).bind fun r521 =>
                                  (bif [[D.sl true 1 r521]].all pureRow then
                                   ((M.laws_eqIntS r521 r459).bind fun r522 =>
                                    (bif !r522 then (k false) else
                                     ((M.laws_heldIntS r517.snd 1).bind fun r523 =>
                                      (bif decide (r523 < 0) then (k false) else (bif r523 != r517.fst then (k false) else (k true)))))) else none))))))))))))))))))))) else none)))) else none)))))))
noncomputable def M.laws_FnExactFirstApart (aA : List Row) (aB : List Row) : Option (Bool) := M.laws_FnExactFirstApart_C aA aB some
theorem M.laws_FnExactFirstApart_n {R : Type} (aA : List Row) (aB : List Row) (k : Bool → Option R) : M.laws_FnExactFirstApart_C aA aB k = (M.laws_FnExactFirstApart_C aA aB some).bind k := by
  simp only [M.laws_FnExactFirstApart_C, bif_bind, bind_bind, some_bind, none_bind, sumE_bind, optE_bind, letE_bind]
noncomputable def K.laws_FnExactFirstApart : KonC := (kcons 9 (P.laws_szNodeS M.laws_szNodeS pnil) (kcons 11 (P.laws_toNodeS M.laws_toNodeS pnil) (kcons 31 (P.spec_FirstApart M.spec_FirstApart pnil) (kcons 32 (P.impl_FirstApart M.impl_FirstApart pnil) (kcons 18 (P.laws_eqIntS M.laws_eqIntS pnil) (kcons 13 (P.laws_eqNodeS M.laws_eqNodeS pnil) (kcons 28 (P.laws_markNodeS M.laws_markNodeS pnil) (kcons 21 (P.laws_markIntS M.laws_markIntS pnil) (kcons 22 (P.laws_heldIntS M.laws_heldIntS pnil) knil)))))))))
noncomputable def L.laws_FnExactFirstApart : LoopC := lnil
theorem E.laws_FnExactFirstApart {R : Type} (aA : List Row) (aB : List Row) (k : List Row → List Cell → Option R) : bodyC X0 (K.laws_FnExactFirstApart) (L.laws_FnExactFirstApart) 8 [V.d (D.sl false 5 aA), V.d (D.sl false 5 aB)] [] k = M.laws_FnExactFirstApart_C aA aB (fun r => k [[D.bool r]] []) := by kernel_rfl
theorem LC.laws_FnExactFirstApart : loops (codeOf X0.P 8) = [] := by kernel_rfl
theorem C.laws_FnExactFirstApart : H.laws_FnExactFirstApart (M.laws_FnExactFirstApart) := by
  intro aA aB r h
  exact fn_sound (enc := fun r => ([[D.bool r]], [])) (K := K.laws_FnExactFirstApart) (L := L.laws_FnExactFirstApart) (by kernel_rfl) (kcons_ok (P.laws_szNodeS_ok C.laws_szNodeS pnil_ok) (kcons_ok (P.laws_toNodeS_ok C.laws_toNodeS pnil_ok) (kcons_ok (P.spec_FirstApart_ok C.spec_FirstApart pnil_ok) (kcons_ok (P.impl_FirstApart_ok C.impl_FirstApart pnil_ok) (kcons_ok (P.laws_eqIntS_ok C.laws_eqIntS pnil_ok) (kcons_ok (P.laws_eqNodeS_ok C.laws_eqNodeS pnil_ok) (kcons_ok (P.laws_markNodeS_ok C.laws_markNodeS pnil_ok) (kcons_ok (P.laws_markIntS_ok C.laws_markIntS pnil_ok) (kcons_ok (P.laws_heldIntS_ok C.laws_heldIntS pnil_ok) knil_ok))))))))) (by rw [LC.laws_FnExactFirstApart]; exact LOk.nil) (by rw [E.laws_FnExactFirstApart, M.laws_FnExactFirstApart_n] <;> rfl) h


end Go.Proofs.Ytfbemlhfieemhaa
