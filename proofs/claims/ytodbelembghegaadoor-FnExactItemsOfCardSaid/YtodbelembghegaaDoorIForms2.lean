/-
  The plain forms of the functions, and that they are what the functions come to (2).
-/
import Derived.Test.YtodbelembghegaaDoorIForms
namespace Go.Proofs.YtodbelembghegaaDoor
open Go Go.Vm
set_option linter.unusedVariables false
set_option linter.unusedSimpArgs false
/-! impl_IsBuiltin -/
def H.impl_IsBuiltin (o : List UInt8 → Option (Bool)) : Prop := ∀ (s' : List UInt8) (r : Bool), o s' = some r → call X0 85 [V.d (D.str s')] [] = some ([[D.bool r]], [])
def P.impl_IsBuiltin (o : List UInt8 → Option (Bool)) (q : List V → List Cell → Res (List Row × List Cell)) (a : List V) (c : List Cell) : Res (List Row × List Cell) := match a, c with
  | [V.d (D.str s')], [] => ⟨Bool, o s', fun r => ([[D.bool r]], [])⟩
  | a, c => q a c
theorem P.impl_IsBuiltin_ok {o : List UInt8 → Option (Bool)} {q : List V → List Cell → Res (List Row × List Cell)} (h : H.impl_IsBuiltin o) (hq : FnOk X0 85 q) : FnOk X0 85 (P.impl_IsBuiltin o q) := by
  intro a c r hr
  unfold P.impl_IsBuiltin at hr
  split at hr
  · obtain ⟨x, hx, rfl⟩ := Res.val_some hr
    exact h _ x hx
  · exact hq _ _ _ hr
noncomputable def M.impl_IsBuiltin_C {R : Type} (s' : List UInt8) (k : Bool → Option R) : Option R :=
  (M.slices_Contains (List.map (fun x => [x]) builtinsRow) s').bind fun r314 => (k r314)
noncomputable def M.impl_IsBuiltin (s' : List UInt8) : Option (Bool) := M.impl_IsBuiltin_C s' some
theorem M.impl_IsBuiltin_n {R : Type} (s' : List UInt8) (k : Bool → Option R) : M.impl_IsBuiltin_C s' k = (M.impl_IsBuiltin_C s' some).bind k := by
  simp only [M.impl_IsBuiltin_C, bif_bind, bind_bind, some_bind, none_bind, sumE_bind, optE_bind, letE_bind]
noncomputable def K.impl_IsBuiltin : KonC := (kcons 89 (P.slices_Contains M.slices_Contains pnil) knil)
noncomputable def L.impl_IsBuiltin : LoopC := lnil
theorem E.impl_IsBuiltin {R : Type} (s' : List UInt8) (k : List Row → List Cell → Option R) : bodyC X0 (K.impl_IsBuiltin) (L.impl_IsBuiltin) 85 [V.d (D.str s')] [] k = M.impl_IsBuiltin_C s' (fun r => k [[D.bool r]] []) := by kernel_rfl
theorem LC.impl_IsBuiltin : loops (codeOf X0.P 85) = [] := by kernel_rfl
theorem C.impl_IsBuiltin : H.impl_IsBuiltin (M.impl_IsBuiltin) := by
  intro s' r h
  exact fn_sound (enc := fun r => ([[D.bool r]], [])) (K := K.impl_IsBuiltin) (L := L.impl_IsBuiltin) (by kernel_rfl) (kcons_ok (P.slices_Contains_ok C.slices_Contains pnil_ok) knil_ok) (by rw [LC.impl_IsBuiltin]; exact LOk.nil) (by rw [E.impl_IsBuiltin, M.impl_IsBuiltin_n] <;> rfl) h

/-! impl_NameOk -/
def H.impl_NameOk (o : List UInt8 → Option (Bool)) : Prop := ∀ (s' : List UInt8) (r : Bool), o s' = some r → call X0 83 [V.d (D.str s')] [] = some ([[D.bool r]], [])
def P.impl_NameOk (o : List UInt8 → Option (Bool)) (q : List V → List Cell → Res (List Row × List Cell)) (a : List V) (c : List Cell) : Res (List Row × List Cell) := match a, c with
  | [V.d (D.str s')], [] => ⟨Bool, o s', fun r => ([[D.bool r]], [])⟩
  | a, c => q a c
theorem P.impl_NameOk_ok {o : List UInt8 → Option (Bool)} {q : List V → List Cell → Res (List Row × List Cell)} (h : H.impl_NameOk o) (hq : FnOk X0 83 q) : FnOk X0 83 (P.impl_NameOk o q) := by
  intro a c r hr
  unfold P.impl_NameOk at hr
  split at hr
  · obtain ⟨x, hx, rfl⟩ := Res.val_some hr
    exact h _ x hx
  · exact hq _ _ _ hr
noncomputable def M.impl_NameOk_C {R : Type} (s' : List UInt8) (k : Bool → Option R) : Option R :=
  (M.impl_NameShape s').bind fun r304 =>
   (bif r304 then
    ((M.impl_KeywordOf s').bind fun r312 => (bif r312 == 0 then ((M.impl_IsBuiltin s').bind fun r315 => (k !r315)) else (k false))) else (k false))
noncomputable def M.impl_NameOk (s' : List UInt8) : Option (Bool) := M.impl_NameOk_C s' some
theorem M.impl_NameOk_n {R : Type} (s' : List UInt8) (k : Bool → Option R) : M.impl_NameOk_C s' k = (M.impl_NameOk_C s' some).bind k := by
  simp only [M.impl_NameOk_C, bif_bind, bind_bind, some_bind, none_bind, sumE_bind, optE_bind, letE_bind]
noncomputable def K.impl_NameOk : KonC := (kcons 102 (P.impl_NameShape M.impl_NameShape pnil) (kcons 103 (P.impl_KeywordOf M.impl_KeywordOf pnil) (kcons 85 (P.impl_IsBuiltin M.impl_IsBuiltin pnil) knil)))
noncomputable def L.impl_NameOk : LoopC := lnil
theorem E.impl_NameOk {R : Type} (s' : List UInt8) (k : List Row → List Cell → Option R) : bodyC X0 (K.impl_NameOk) (L.impl_NameOk) 83 [V.d (D.str s')] [] k = M.impl_NameOk_C s' (fun r => k [[D.bool r]] []) := by kernel_rfl
theorem LC.impl_NameOk : loops (codeOf X0.P 83) = [] := by kernel_rfl
theorem C.impl_NameOk : H.impl_NameOk (M.impl_NameOk) := by
  intro s' r h
  exact fn_sound (enc := fun r => ([[D.bool r]], [])) (K := K.impl_NameOk) (L := L.impl_NameOk) (by kernel_rfl) (kcons_ok (P.impl_NameShape_ok C.impl_NameShape pnil_ok) (kcons_ok (P.impl_KeywordOf_ok C.impl_KeywordOf pnil_ok) (kcons_ok (P.impl_IsBuiltin_ok C.impl_IsBuiltin pnil_ok) knil_ok))) (by rw [LC.impl_NameOk]; exact LOk.nil) (by rw [E.impl_NameOk, M.impl_NameOk_n] <;> rfl) h

/-! strings_Contains (a primitive) -/
def H.strings_Contains (o : List UInt8 → List UInt8 → Option (Bool)) : Prop := ∀ (s' : List UInt8) (substr : List UInt8) (r : Bool), o s' substr = some r → call X0 104 [V.d (D.str s'), V.d (D.str substr)] [] = some ([[D.bool r]], [])
def P.strings_Contains (o : List UInt8 → List UInt8 → Option (Bool)) (q : List V → List Cell → Res (List Row × List Cell)) (a : List V) (c : List Cell) : Res (List Row × List Cell) := match a, c with
  | [V.d (D.str s'), V.d (D.str substr)], [] => ⟨Bool, o s' substr, fun r => ([[D.bool r]], [])⟩
  | a, c => q a c
theorem P.strings_Contains_ok {o : List UInt8 → List UInt8 → Option (Bool)} {q : List V → List Cell → Res (List Row × List Cell)} (h : H.strings_Contains o) (hq : FnOk X0 104 q) : FnOk X0 104 (P.strings_Contains o q) := by
  intro a c r hr
  unfold P.strings_Contains at hr
  split at hr
  · obtain ⟨x, hx, rfl⟩ := Res.val_some hr
    exact h _ _ x hx
  · exact hq _ _ _ hr
theorem C.strings_Contains : H.strings_Contains M.strings_Contains := fun s' substr r h => call_of_prim (p := Prim.strings_Contains) (by kernel_rfl) (by show Option.map _ (M.strings_Contains s' substr) = _; rw [h]; rfl)

/-! impl_byteAt -/
def H.impl_byteAt (o : List UInt8 → Int → Option (Int)) : Prop := ∀ (s' : List UInt8) (at' : Int) (r : Int), o s' at' = some r → call X0 122 [V.d (D.str s'), V.d (D.int IntKind.i64 at')] [] = some ([[D.int IntKind.i64 r]], [])
def P.impl_byteAt (o : List UInt8 → Int → Option (Int)) (q : List V → List Cell → Res (List Row × List Cell)) (a : List V) (c : List Cell) : Res (List Row × List Cell) := match a, c with
  | [V.d (D.str s'), V.d (D.int IntKind.i64 at')], [] => ⟨Int, o s' at', fun r => ([[D.int IntKind.i64 r]], [])⟩
  | a, c => q a c
theorem P.impl_byteAt_ok {o : List UInt8 → Int → Option (Int)} {q : List V → List Cell → Res (List Row × List Cell)} (h : H.impl_byteAt o) (hq : FnOk X0 122 q) : FnOk X0 122 (P.impl_byteAt o q) := by
  intro a c r hr
  unfold P.impl_byteAt at hr
  split at hr
  · obtain ⟨x, hx, rfl⟩ := Res.val_some hr
    exact h _ _ x hx
  · exact hq _ _ _ hr
noncomputable def M.impl_byteAt_C {R : Type} (s' : List UInt8) (at' : Int) (k : Int → Option R) : Option R :=
  (M.impl_within at' 0 (IntKind.i64.wrap ((↑s'.length : Int) - 1))).bind fun r321 =>
   (bif !r321 then (k (-1)) else ((idx s' at').bind fun c322 => (k (IntKind.i64.wrap (↑c322.toNat : Int)))))
noncomputable def M.impl_byteAt (s' : List UInt8) (at' : Int) : Option (Int) := M.impl_byteAt_C s' at' some
theorem M.impl_byteAt_n {R : Type} (s' : List UInt8) (at' : Int) (k : Int → Option R) : M.impl_byteAt_C s' at' k = (M.impl_byteAt_C s' at' some).bind k := by
  simp only [M.impl_byteAt_C, bif_bind, bind_bind, some_bind, none_bind, sumE_bind, optE_bind, letE_bind]
noncomputable def K.impl_byteAt : KonC := (kcons 64 (P.impl_within M.impl_within pnil) knil)
noncomputable def L.impl_byteAt : LoopC := lnil
theorem E.impl_byteAt {R : Type} (s' : List UInt8) (at' : Int) (k : List Row → List Cell → Option R) : bodyC X0 (K.impl_byteAt) (L.impl_byteAt) 122 [V.d (D.str s'), V.d (D.int IntKind.i64 at')] [] k = M.impl_byteAt_C s' at' (fun r => k [[D.int IntKind.i64 r]] []) := by kernel_rfl
theorem LC.impl_byteAt : loops (codeOf X0.P 122) = [] := by kernel_rfl
theorem C.impl_byteAt : H.impl_byteAt (M.impl_byteAt) := by
  intro s' at' r h
  exact fn_sound (enc := fun r => ([[D.int IntKind.i64 r]], [])) (K := K.impl_byteAt) (L := L.impl_byteAt) (by kernel_rfl) (kcons_ok (P.impl_within_ok C.impl_within pnil_ok) knil_ok) (by rw [LC.impl_byteAt]; exact LOk.nil) (by rw [E.impl_byteAt, M.impl_byteAt_n] <;> rfl) h

/-! impl_digitsEnd -/
def H.impl_digitsEnd (o : List UInt8 → Int → Option (Int)) : Prop := ∀ (s' : List UInt8) (at' : Int) (r : Int), o s' at' = some r → call X0 121 [V.d (D.str s'), V.d (D.int IntKind.i64 at')] [] = some ([[D.int IntKind.i64 r]], [])
def P.impl_digitsEnd (o : List UInt8 → Int → Option (Int)) (q : List V → List Cell → Res (List Row × List Cell)) (a : List V) (c : List Cell) : Res (List Row × List Cell) := match a, c with
  | [V.d (D.str s'), V.d (D.int IntKind.i64 at')], [] => ⟨Int, o s' at', fun r => ([[D.int IntKind.i64 r]], [])⟩
  | a, c => q a c
theorem P.impl_digitsEnd_ok {o : List UInt8 → Int → Option (Int)} {q : List V → List Cell → Res (List Row × List Cell)} (h : H.impl_digitsEnd o) (hq : FnOk X0 121 q) : FnOk X0 121 (P.impl_digitsEnd o q) := by
  intro a c r hr
  unfold P.impl_digitsEnd at hr
  split at hr
  · obtain ⟨x, hx, rfl⟩ := Res.val_some hr
    exact h _ _ x hx
  · exact hq _ _ _ hr
noncomputable def M.impl_digitsEnd_l1_C {R : Type} (s' : List UInt8) (s : Int) (kn : Int → Option R) (ke : Int → Option R) : Option R := match s with
  | at' =>
    (M.impl_byteAt s' at').bind fun r323 =>
     ((M.impl_IsDigit r323).bind fun r324 => (bif r324 then (kn (IntKind.i64.wrap (at' + 1))) else (ke at')))
noncomputable def M.impl_digitsEnd_l1_b (s' : List UInt8) (s : Int) : Option ((Int) ⊕ (Int)) := M.impl_digitsEnd_l1_C s' s (fun s => some (.inl s)) (fun t => some (.inr t))
noncomputable def M.impl_digitsEnd_l1 (s' : List UInt8) (s : Int) : Option (Int) := loopM (M.impl_digitsEnd_l1_b s') s
theorem M.impl_digitsEnd_l1_n {R : Type} (s' : List UInt8) (s : Int) (kn : Int → Option R) (ke : Int → Option R) : M.impl_digitsEnd_l1_C s' s kn ke = (M.impl_digitsEnd_l1_b s' s).bind fun r => match r with | .inl s => kn s | .inr t => ke t := by
  skip
  all_goals
    simp only [M.impl_digitsEnd_l1_b, M.impl_digitsEnd_l1_C, bif_bind, bind_bind, some_bind, none_bind, sumE_bind, optE_bind, letE_bind]
def A.impl_digitsEnd_l1 (s' : List UInt8) : Alt (Ex × St) := .leaf (Int) (fun t => (Ex.exit 0, { tm := [(0, V.d (D.str s')), (1, V.d (D.int IntKind.i64 t)), (8, V.d (D.bool false))], mem := [] }))
def T.impl_digitsEnd_l1 (s' : List UInt8) (s : Int) : St := match s with
  | at' => { tm := [(0, V.d (D.str s')), (1, V.d (D.int IntKind.i64 at'))], mem := [] }
noncomputable def K.impl_digitsEnd_l1 : KonC := (kcons 122 (P.impl_byteAt M.impl_byteAt pnil) (kcons 127 (P.impl_IsDigit M.impl_IsDigit pnil) knil))
noncomputable def L.impl_digitsEnd_l1 : LoopC := lnil
theorem E.impl_digitsEnd_l1 {R : Type} (s' : List UInt8) (s : Int) (k : Ex → St → Option R) : denC X0 (K.impl_digitsEnd_l1) (L.impl_digitsEnd_l1) 121 (loopCode X0.P 121 1) (T.impl_digitsEnd_l1 s' s) k = M.impl_digitsEnd_l1_C s' s (fun s => k .normal (T.impl_digitsEnd_l1 s' s)) (fun t => (A.impl_digitsEnd_l1 s').go t fun r => k r.1 r.2) := by
  skip
  all_goals kernel_rfl
theorem LC.impl_digitsEnd_l1 : loops (loopCode X0.P 121 1) = [] := by kernel_rfl
noncomputable def PL.impl_digitsEnd_l1 (S : St) : ResA (Ex × St) := match S with
  | { tm := [(0, V.d (D.str s')), (1, V.d (D.int IntKind.i64 at'))], mem := [] } => ⟨A.impl_digitsEnd_l1 s', M.impl_digitsEnd_l1 s' at'⟩
  | _ => .none
theorem C.impl_digitsEnd_l1 : LpOk X0 121 1 (loopCode X0.P 121 1) (PL.impl_digitsEnd_l1) := by
  refine ⟨by kernel_rfl, fun S r hr => ?_⟩
  unfold PL.impl_digitsEnd_l1 at hr
  split at hr
  · obtain ⟨x, hx, rfl⟩ := ResA.val_some hr
    exact lp_sound (K := K.impl_digitsEnd_l1) (L := L.impl_digitsEnd_l1) (b := M.impl_digitsEnd_l1_b _) (tm := T.impl_digitsEnd_l1 _) (tx := (A.impl_digitsEnd_l1 _).enc) (kcons_ok (P.impl_byteAt_ok C.impl_byteAt pnil_ok) (kcons_ok (P.impl_IsDigit_ok C.impl_IsDigit pnil_ok) knil_ok)) (by rw [LC.impl_digitsEnd_l1]; exact LOk.nil) (fun s => by rw [E.impl_digitsEnd_l1, M.impl_digitsEnd_l1_n]; congr 1; funext r; cases r <;> first | rfl | exact Alt.go_eq _ _ _) (by intro t; intro h; cases h) hx (s := _)
  · cases hr
noncomputable def M.impl_digitsEnd_C {R : Type} (s' : List UInt8) (at' : Int) (k : Int → Option R) : Option R :=
  (M.impl_digitsEnd_l1 s' at').bind fun t325 => (k t325)
noncomputable def M.impl_digitsEnd (s' : List UInt8) (at' : Int) : Option (Int) := M.impl_digitsEnd_C s' at' some
theorem M.impl_digitsEnd_n {R : Type} (s' : List UInt8) (at' : Int) (k : Int → Option R) : M.impl_digitsEnd_C s' at' k = (M.impl_digitsEnd_C s' at' some).bind k := by
  simp only [M.impl_digitsEnd_C, bif_bind, bind_bind, some_bind, none_bind, sumE_bind, optE_bind, letE_bind]
noncomputable def K.impl_digitsEnd : KonC := knil
noncomputable def L.impl_digitsEnd : LoopC := (lcons 1 (PL.impl_digitsEnd_l1) lnil)
theorem E.impl_digitsEnd {R : Type} (s' : List UInt8) (at' : Int) (k : List Row → List Cell → Option R) : bodyC X0 (K.impl_digitsEnd) (L.impl_digitsEnd) 121 [V.d (D.str s'), V.d (D.int IntKind.i64 at')] [] k = M.impl_digitsEnd_C s' at' (fun r => k [[D.int IntKind.i64 r]] []) := by kernel_rfl
theorem LC.impl_digitsEnd : loops (codeOf X0.P 121) = [loopCode X0.P 121 1] := by kernel_rfl
theorem C.impl_digitsEnd : H.impl_digitsEnd (M.impl_digitsEnd) := by
  intro s' at' r h
  exact fn_sound (enc := fun r => ([[D.int IntKind.i64 r]], [])) (K := K.impl_digitsEnd) (L := L.impl_digitsEnd) (by kernel_rfl) knil_ok (by rw [LC.impl_digitsEnd]; exact (LOk.cons (LpOk.at (C.impl_digitsEnd_l1) (fun _ => rfl)) LOk.nil)) (by rw [E.impl_digitsEnd, M.impl_digitsEnd_n] <;> rfl) h

/-! impl_NumEnd -/
def H.impl_NumEnd (o : List UInt8 → Int → Option (Int)) : Prop := ∀ (s' : List UInt8) (at' : Int) (r : Int), o s' at' = some r → call X0 105 [V.d (D.str s'), V.d (D.int IntKind.i64 at')] [] = some ([[D.int IntKind.i64 r]], [])
def P.impl_NumEnd (o : List UInt8 → Int → Option (Int)) (q : List V → List Cell → Res (List Row × List Cell)) (a : List V) (c : List Cell) : Res (List Row × List Cell) := match a, c with
  | [V.d (D.str s'), V.d (D.int IntKind.i64 at')], [] => ⟨Int, o s' at', fun r => ([[D.int IntKind.i64 r]], [])⟩
  | a, c => q a c
theorem P.impl_NumEnd_ok {o : List UInt8 → Int → Option (Int)} {q : List V → List Cell → Res (List Row × List Cell)} (h : H.impl_NumEnd o) (hq : FnOk X0 105 q) : FnOk X0 105 (P.impl_NumEnd o q) := by
  intro a c r hr
  unfold P.impl_NumEnd at hr
  split at hr
  · obtain ⟨x, hx, rfl⟩ := Res.val_some hr
    exact h _ _ x hx
  · exact hq _ _ _ hr
noncomputable def M.impl_NumEnd_C {R : Type} (s' : List UInt8) (at' : Int) (k : Int → Option R) : Option R :=
  (M.impl_within at' 0 (IntKind.i64.wrap ((↑s'.length : Int) - 1))).bind fun r320 =>
   (bif !r320 then (k (-1)) else
    ((M.impl_digitsEnd s' at').bind fun r326 =>
     ((M.impl_byteAt s' r326).bind fun r327 =>
      (bif r327 == 46 then
       ((M.impl_digitsEnd s' (IntKind.i64.wrap (r326 + 1))).bind fun r328 =>
        (bif IntKind.i64.wrap (IntKind.i64.wrap (r326 - at') + IntKind.i64.wrap (IntKind.i64.wrap (r328 - r326) - 1)) == 0 then (k (-1)) else
         ((M.impl_byteAt s' r328).bind fun r329 =>
          (bif r329 == 101 then
           ((M.impl_byteAt s' (IntKind.i64.wrap (r328 + 1))).bind fun r330 =>
            (bif r330 == 43 then
             ((M.impl_digitsEnd s' (IntKind.i64.wrap (IntKind.i64.wrap (r328 + 1) + 1))).bind fun r331 =>
              (bif decide (r331 > IntKind.i64.wrap (IntKind.i64.wrap (r328 + 1) + 1)) then (k r331) else (k r328))) else
             (bif r330 == 45 then
              ((M.impl_digitsEnd s' (IntKind.i64.wrap (IntKind.i64.wrap (r328 + 1) + 1))).bind fun r332 =>
               (bif decide (r332 > IntKind.i64.wrap (IntKind.i64.wrap (r328 + 1) + 1)) then (k r332) else (k r328))) else
              ((M.impl_digitsEnd s' (IntKind.i64.wrap (r328 + 1))).bind fun r333 => (bif decide (r333 > IntKind.i64.wrap (r328 + 1)) then (k r333) else (k r328)))))) else
           (bif r329 == 69 then
            ((M.impl_byteAt s' (IntKind.i64.wrap (r328 + 1))).bind fun r334 =>
             (bif r334 == 43 then
              ((M.impl_digitsEnd s' (IntKind.i64.wrap (IntKind.i64.wrap (r328 + 1) + 1))).bind fun r335 =>
               (bif decide (r335 > IntKind.i64.wrap (IntKind.i64.wrap (r328 + 1) + 1)) then (k r335) else (k r328))) else
              (bif r334 == 45 then
               ((M.impl_digitsEnd s' (IntKind.i64.wrap (IntKind.i64.wrap (r328 + 1) + 1))).bind fun r336 =>
                (bif decide (r336 > IntKind.i64.wrap (IntKind.i64.wrap (r328 + 1) + 1)) then (k r336) else (k r328))) else
               ((M.impl_digitsEnd s' (IntKind.i64.wrap (r328 + 1))).bind fun r337 => (bif decide (r337 > IntKind.i64.wrap (r328 + 1)) then (k r337) else (k r328)))))) else (k r328)))))) else
       (bif IntKind.i64.wrap (r326 - at') == 0 then (k (-1)) else
        ((M.impl_byteAt s' r326).bind fun r338 =>
         (bif r338 == 101 then
          ((M.impl_byteAt s' (IntKind.i64.wrap (r326 + 1))).bind fun r339 =>
           (bif r339 == 43 then
            ((M.impl_digitsEnd s' (IntKind.i64.wrap (IntKind.i64.wrap (r326 + 1) + 1))).bind fun r340 =>
             (bif decide (r340 > IntKind.i64.wrap (IntKind.i64.wrap (r326 + 1) + 1)) then (k r340) else (k r326))) else
            (bif r339 == 45 then
             ((M.impl_digitsEnd s' (IntKind.i64.wrap (IntKind.i64.wrap (r326 + 1) + 1))).bind fun r341 =>
              (bif decide (r341 > IntKind.i64.wrap (IntKind.i64.wrap (r326 + 1) + 1)) then (k r341) else (k r326))) else
             ((M.impl_digitsEnd s' (IntKind.i64.wrap (r326 + 1))).bind fun r342 => (bif decide (r342 > IntKind.i64.wrap (r326 + 1)) then (k r342) else (k r326)))))) else
          (bif r338 == 69 then
           ((M.impl_byteAt s' (IntKind.i64.wrap (r326 + 1))).bind fun r343 =>
            (bif r343 == 43 then
             ((M.impl_digitsEnd s' (IntKind.i64.wrap (IntKind.i64.wrap (r326 + 1) + 1))).bind fun r344 =>
              (bif decide (r344 > IntKind.i64.wrap (IntKind.i64.wrap (r326 + 1) + 1)) then (k r344) else (k r326))) else
             (bif r343 == 45 then
              ((M.impl_digitsEnd s' (IntKind.i64.wrap (IntKind.i64.wrap (r326 + 1) + 1))).bind fun r345 =>
               (bif decide (r345 > IntKind.i64.wrap (IntKind.i64.wrap (r326 + 1) + 1)) then (k r345) else (k r326))) else
              ((M.impl_digitsEnd s' (IntKind.i64.wrap (r326 + 1))).bind fun r346 => (bif decide (r346 > IntKind.i64.wrap (r326 + 1)) then (k r346) else (k r326)))))) else (k r326)))))))))
noncomputable def M.impl_NumEnd (s' : List UInt8) (at' : Int) : Option (Int) := M.impl_NumEnd_C s' at' some
theorem M.impl_NumEnd_n {R : Type} (s' : List UInt8) (at' : Int) (k : Int → Option R) : M.impl_NumEnd_C s' at' k = (M.impl_NumEnd_C s' at' some).bind k := by
  simp only [M.impl_NumEnd_C, bif_bind, bind_bind, some_bind, none_bind, sumE_bind, optE_bind, letE_bind]
noncomputable def K.impl_NumEnd : KonC := (kcons 64 (P.impl_within M.impl_within pnil) (kcons 121 (P.impl_digitsEnd M.impl_digitsEnd pnil) (kcons 122 (P.impl_byteAt M.impl_byteAt pnil) knil)))
noncomputable def L.impl_NumEnd : LoopC := lnil
theorem E.impl_NumEnd {R : Type} (s' : List UInt8) (at' : Int) (k : List Row → List Cell → Option R) : bodyC X0 (K.impl_NumEnd) (L.impl_NumEnd) 105 [V.d (D.str s'), V.d (D.int IntKind.i64 at')] [] k = M.impl_NumEnd_C s' at' (fun r => k [[D.int IntKind.i64 r]] []) := by kernel_rfl
theorem LC.impl_NumEnd : loops (codeOf X0.P 105) = [] := by kernel_rfl
theorem C.impl_NumEnd : H.impl_NumEnd (M.impl_NumEnd) := by
  intro s' at' r h
  exact fn_sound (enc := fun r => ([[D.int IntKind.i64 r]], [])) (K := K.impl_NumEnd) (L := L.impl_NumEnd) (by kernel_rfl) (kcons_ok (P.impl_within_ok C.impl_within pnil_ok) (kcons_ok (P.impl_digitsEnd_ok C.impl_digitsEnd pnil_ok) (kcons_ok (P.impl_byteAt_ok C.impl_byteAt pnil_ok) knil_ok))) (by rw [LC.impl_NumEnd]; exact LOk.nil) (by rw [E.impl_NumEnd, M.impl_NumEnd_n] <;> rfl) h

/-! impl_quotedEnd -/
def H.impl_quotedEnd (o : List UInt8 → Int → Int → Option (Int)) : Prop := ∀ (s' : List UInt8) (at' : Int) (quote : Int) (r : Int), o s' at' quote = some r → call X0 123 [V.d (D.str s'), V.d (D.int IntKind.i64 at'), V.d (D.int IntKind.i64 quote)] [] = some ([[D.int IntKind.i64 r]], [])
def P.impl_quotedEnd (o : List UInt8 → Int → Int → Option (Int)) (q : List V → List Cell → Res (List Row × List Cell)) (a : List V) (c : List Cell) : Res (List Row × List Cell) := match a, c with
  | [V.d (D.str s'), V.d (D.int IntKind.i64 at'), V.d (D.int IntKind.i64 quote)], [] => ⟨Int, o s' at' quote, fun r => ([[D.int IntKind.i64 r]], [])⟩
  | a, c => q a c
theorem P.impl_quotedEnd_ok {o : List UInt8 → Int → Int → Option (Int)} {q : List V → List Cell → Res (List Row × List Cell)} (h : H.impl_quotedEnd o) (hq : FnOk X0 123 q) : FnOk X0 123 (P.impl_quotedEnd o q) := by
  intro a c r hr
  unfold P.impl_quotedEnd at hr
  split at hr
  · obtain ⟨x, hx, rfl⟩ := Res.val_some hr
    exact h _ _ _ x hx
  · exact hq _ _ _ hr
noncomputable def M.impl_quotedEnd_l4_C {R : Type} (s' : List UInt8) (quote : Int) (s : Int) (kn : Int → Option R) (ke : (Int) ⊕ (Int) → Option R) : Option R := match s with
  | i =>
    bif decide (i < (↑s'.length : Int)) then
     ((idx s' i).bind fun c349 =>
      (bif (↑c349.toNat : Int) != 10 then
       ((idx s' i).bind fun c350 =>
        (bif IntKind.i64.wrap (↑c350.toNat : Int) == quote then (ke (.inl (IntKind.i64.wrap (i + 1)))) else
         ((idx s' i).bind fun c351 =>
          (bif (↑c351.toNat : Int) == 92 then
           ((M.impl_byteAt s' (IntKind.i64.wrap (i + 1))).bind fun r352 =>
            (bif r352 != 10 then (kn (IntKind.i64.wrap (IntKind.i64.wrap (i + 1) + 1))) else (kn (IntKind.i64.wrap (i + 1))))) else (kn (IntKind.i64.wrap (i + 1))))))) else (ke (.inr i)))) else (ke (.inr i))
noncomputable def M.impl_quotedEnd_l4_b (s' : List UInt8) (quote : Int) (s : Int) : Option ((Int) ⊕ ((Int) ⊕ (Int))) := M.impl_quotedEnd_l4_C s' quote s (fun s => some (.inl s)) (fun t => some (.inr t))
noncomputable def M.impl_quotedEnd_l4 (s' : List UInt8) (quote : Int) (s : Int) : Option ((Int) ⊕ (Int)) := loopM (M.impl_quotedEnd_l4_b s' quote) s
theorem M.impl_quotedEnd_l4_n {R : Type} (s' : List UInt8) (quote : Int) (s : Int) (kn : Int → Option R) (ke : (Int) ⊕ (Int) → Option R) : M.impl_quotedEnd_l4_C s' quote s kn ke = (M.impl_quotedEnd_l4_b s' quote s).bind fun r => match r with | .inl s => kn s | .inr t => ke t := by
  skip
  all_goals
    simp only [M.impl_quotedEnd_l4_b, M.impl_quotedEnd_l4_C, bif_bind, bind_bind, some_bind, none_bind, sumE_bind, optE_bind, letE_bind]
def A.impl_quotedEnd_l4 (s' : List UInt8) (quote : Int) : Alt (Ex × St) := .sum (.leaf (Int) (fun t => (Ex.ret, { tm := [(6, V.d (D.int IntKind.i64 t))], mem := [] }))) (.leaf (Int) (fun t => (Ex.exit 0, { tm := [(0, V.d (D.str s')), (2, V.d (D.int IntKind.i64 quote)), (7, V.d (D.int IntKind.i64 t)), (24, V.d (D.bool false))], mem := [] })))
def T.impl_quotedEnd_l4 (s' : List UInt8) (quote : Int) (s : Int) : St := match s with
  | i => { tm := [(0, V.d (D.str s')), (2, V.d (D.int IntKind.i64 quote)), (7, V.d (D.int IntKind.i64 i))], mem := [] }
noncomputable def K.impl_quotedEnd_l4 : KonC := (kcons 122 (P.impl_byteAt M.impl_byteAt pnil) knil)
noncomputable def L.impl_quotedEnd_l4 : LoopC := lnil
theorem E.impl_quotedEnd_l4 {R : Type} (s' : List UInt8) (quote : Int) (s : Int) (k : Ex → St → Option R) : denC X0 (K.impl_quotedEnd_l4) (L.impl_quotedEnd_l4) 123 (loopCode X0.P 123 4) (T.impl_quotedEnd_l4 s' quote s) k = M.impl_quotedEnd_l4_C s' quote s (fun s => k .normal (T.impl_quotedEnd_l4 s' quote s)) (fun t => (A.impl_quotedEnd_l4 s' quote).go t fun r => k r.1 r.2) := by
  skip
  all_goals kernel_rfl
theorem LC.impl_quotedEnd_l4 : loops (loopCode X0.P 123 4) = [] := by kernel_rfl
noncomputable def PL.impl_quotedEnd_l4 (S : St) : ResA (Ex × St) := match S with
  | { tm := [(0, V.d (D.str s')), (2, V.d (D.int IntKind.i64 quote)), (7, V.d (D.int IntKind.i64 i))], mem := [] } => ⟨A.impl_quotedEnd_l4 s' quote, M.impl_quotedEnd_l4 s' quote i⟩
  | _ => .none
theorem C.impl_quotedEnd_l4 : LpOk X0 123 4 (loopCode X0.P 123 4) (PL.impl_quotedEnd_l4) := by
  refine ⟨by kernel_rfl, fun S r hr => ?_⟩
  unfold PL.impl_quotedEnd_l4 at hr
  split at hr
  · obtain ⟨x, hx, rfl⟩ := ResA.val_some hr
    exact lp_sound (K := K.impl_quotedEnd_l4) (L := L.impl_quotedEnd_l4) (b := M.impl_quotedEnd_l4_b _ _) (tm := T.impl_quotedEnd_l4 _ _) (tx := (A.impl_quotedEnd_l4 _ _).enc) (kcons_ok (P.impl_byteAt_ok C.impl_byteAt pnil_ok) knil_ok) (by rw [LC.impl_quotedEnd_l4]; exact LOk.nil) (fun s => by rw [E.impl_quotedEnd_l4, M.impl_quotedEnd_l4_n]; congr 1; funext r; cases r <;> first | rfl | exact Alt.go_eq _ _ _) (by intro t; rcases t with t | t <;> first | (intro h; cases h) | (intro h; cases h)) hx (s := _)
  · cases hr
noncomputable def M.impl_quotedEnd_C {R : Type} (s' : List UInt8) (at' : Int) (quote : Int) (k : Int → Option R) : Option R :=
  (M.impl_byteAt s' at').bind fun r348 =>
   (bif r348 != quote then (k (-1)) else
    ((M.impl_quotedEnd_l4 s' quote (IntKind.i64.wrap (at' + 1))).bind fun u355 =>
    sumE u355 (fun t353 => (k t353)) fun u356 =>
     letE u356 fun t354 => (k (-1))))
noncomputable def M.impl_quotedEnd (s' : List UInt8) (at' : Int) (quote : Int) : Option (Int) := M.impl_quotedEnd_C s' at' quote some
theorem M.impl_quotedEnd_n {R : Type} (s' : List UInt8) (at' : Int) (quote : Int) (k : Int → Option R) : M.impl_quotedEnd_C s' at' quote k = (M.impl_quotedEnd_C s' at' quote some).bind k := by
  simp only [M.impl_quotedEnd_C, bif_bind, bind_bind, some_bind, none_bind, sumE_bind, optE_bind, letE_bind]
noncomputable def K.impl_quotedEnd : KonC := (kcons 122 (P.impl_byteAt M.impl_byteAt pnil) knil)
noncomputable def L.impl_quotedEnd : LoopC := (lcons 4 (PL.impl_quotedEnd_l4) lnil)
theorem E.impl_quotedEnd {R : Type} (s' : List UInt8) (at' : Int) (quote : Int) (k : List Row → List Cell → Option R) : bodyC X0 (K.impl_quotedEnd) (L.impl_quotedEnd) 123 [V.d (D.str s'), V.d (D.int IntKind.i64 at'), V.d (D.int IntKind.i64 quote)] [] k = M.impl_quotedEnd_C s' at' quote (fun r => k [[D.int IntKind.i64 r]] []) := by kernel_rfl
theorem LC.impl_quotedEnd : loops (codeOf X0.P 123) = [loopCode X0.P 123 4] := by kernel_rfl
theorem C.impl_quotedEnd : H.impl_quotedEnd (M.impl_quotedEnd) := by
  intro s' at' quote r h
  exact fn_sound (enc := fun r => ([[D.int IntKind.i64 r]], [])) (K := K.impl_quotedEnd) (L := L.impl_quotedEnd) (by kernel_rfl) (kcons_ok (P.impl_byteAt_ok C.impl_byteAt pnil_ok) knil_ok) (by rw [LC.impl_quotedEnd]; exact (LOk.cons (LpOk.at (C.impl_quotedEnd_l4) (fun _ => rfl)) LOk.nil)) (by rw [E.impl_quotedEnd, M.impl_quotedEnd_n] <;> rfl) h

/-! impl_StrEnd -/
def H.impl_StrEnd (o : List UInt8 → Int → Option (Int)) : Prop := ∀ (s' : List UInt8) (at' : Int) (r : Int), o s' at' = some r → call X0 106 [V.d (D.str s'), V.d (D.int IntKind.i64 at')] [] = some ([[D.int IntKind.i64 r]], [])
def P.impl_StrEnd (o : List UInt8 → Int → Option (Int)) (q : List V → List Cell → Res (List Row × List Cell)) (a : List V) (c : List Cell) : Res (List Row × List Cell) := match a, c with
  | [V.d (D.str s'), V.d (D.int IntKind.i64 at')], [] => ⟨Int, o s' at', fun r => ([[D.int IntKind.i64 r]], [])⟩
  | a, c => q a c
theorem P.impl_StrEnd_ok {o : List UInt8 → Int → Option (Int)} {q : List V → List Cell → Res (List Row × List Cell)} (h : H.impl_StrEnd o) (hq : FnOk X0 106 q) : FnOk X0 106 (P.impl_StrEnd o q) := by
  intro a c r hr
  unfold P.impl_StrEnd at hr
  split at hr
  · obtain ⟨x, hx, rfl⟩ := Res.val_some hr
    exact h _ _ x hx
  · exact hq _ _ _ hr
noncomputable def M.impl_StrEnd_C {R : Type} (s' : List UInt8) (at' : Int) (k : Int → Option R) : Option R :=
  (M.impl_quotedEnd s' at' 34).bind fun r357 => (k r357)
noncomputable def M.impl_StrEnd (s' : List UInt8) (at' : Int) : Option (Int) := M.impl_StrEnd_C s' at' some
theorem M.impl_StrEnd_n {R : Type} (s' : List UInt8) (at' : Int) (k : Int → Option R) : M.impl_StrEnd_C s' at' k = (M.impl_StrEnd_C s' at' some).bind k := by
  simp only [M.impl_StrEnd_C, bif_bind, bind_bind, some_bind, none_bind, sumE_bind, optE_bind, letE_bind]
noncomputable def K.impl_StrEnd : KonC := (kcons 123 (P.impl_quotedEnd M.impl_quotedEnd pnil) knil)
noncomputable def L.impl_StrEnd : LoopC := lnil
theorem E.impl_StrEnd {R : Type} (s' : List UInt8) (at' : Int) (k : List Row → List Cell → Option R) : bodyC X0 (K.impl_StrEnd) (L.impl_StrEnd) 106 [V.d (D.str s'), V.d (D.int IntKind.i64 at')] [] k = M.impl_StrEnd_C s' at' (fun r => k [[D.int IntKind.i64 r]] []) := by kernel_rfl
theorem LC.impl_StrEnd : loops (codeOf X0.P 106) = [] := by kernel_rfl
theorem C.impl_StrEnd : H.impl_StrEnd (M.impl_StrEnd) := by
  intro s' at' r h
  exact fn_sound (enc := fun r => ([[D.int IntKind.i64 r]], [])) (K := K.impl_StrEnd) (L := L.impl_StrEnd) (by kernel_rfl) (kcons_ok (P.impl_quotedEnd_ok C.impl_quotedEnd pnil_ok) knil_ok) (by rw [LC.impl_StrEnd]; exact LOk.nil) (by rw [E.impl_StrEnd, M.impl_StrEnd_n] <;> rfl) h

/-! impl_EreEnd -/
def H.impl_EreEnd (o : List UInt8 → Int → Option (Int)) : Prop := ∀ (s' : List UInt8) (at' : Int) (r : Int), o s' at' = some r → call X0 107 [V.d (D.str s'), V.d (D.int IntKind.i64 at')] [] = some ([[D.int IntKind.i64 r]], [])
def P.impl_EreEnd (o : List UInt8 → Int → Option (Int)) (q : List V → List Cell → Res (List Row × List Cell)) (a : List V) (c : List Cell) : Res (List Row × List Cell) := match a, c with
  | [V.d (D.str s'), V.d (D.int IntKind.i64 at')], [] => ⟨Int, o s' at', fun r => ([[D.int IntKind.i64 r]], [])⟩
  | a, c => q a c
theorem P.impl_EreEnd_ok {o : List UInt8 → Int → Option (Int)} {q : List V → List Cell → Res (List Row × List Cell)} (h : H.impl_EreEnd o) (hq : FnOk X0 107 q) : FnOk X0 107 (P.impl_EreEnd o q) := by
  intro a c r hr
  unfold P.impl_EreEnd at hr
  split at hr
  · obtain ⟨x, hx, rfl⟩ := Res.val_some hr
    exact h _ _ x hx
  · exact hq _ _ _ hr
noncomputable def M.impl_EreEnd_C {R : Type} (s' : List UInt8) (at' : Int) (k : Int → Option R) : Option R :=
  (M.impl_quotedEnd s' at' 47).bind fun r359 => (bif r359 == IntKind.i64.wrap (at' + 2) then (k (-1)) else (k r359))
noncomputable def M.impl_EreEnd (s' : List UInt8) (at' : Int) : Option (Int) := M.impl_EreEnd_C s' at' some
theorem M.impl_EreEnd_n {R : Type} (s' : List UInt8) (at' : Int) (k : Int → Option R) : M.impl_EreEnd_C s' at' k = (M.impl_EreEnd_C s' at' some).bind k := by
  simp only [M.impl_EreEnd_C, bif_bind, bind_bind, some_bind, none_bind, sumE_bind, optE_bind, letE_bind]
noncomputable def K.impl_EreEnd : KonC := (kcons 123 (P.impl_quotedEnd M.impl_quotedEnd pnil) knil)
noncomputable def L.impl_EreEnd : LoopC := lnil
theorem E.impl_EreEnd {R : Type} (s' : List UInt8) (at' : Int) (k : List Row → List Cell → Option R) : bodyC X0 (K.impl_EreEnd) (L.impl_EreEnd) 107 [V.d (D.str s'), V.d (D.int IntKind.i64 at')] [] k = M.impl_EreEnd_C s' at' (fun r => k [[D.int IntKind.i64 r]] []) := by kernel_rfl
theorem LC.impl_EreEnd : loops (codeOf X0.P 107) = [] := by kernel_rfl
theorem C.impl_EreEnd : H.impl_EreEnd (M.impl_EreEnd) := by
  intro s' at' r h
  exact fn_sound (enc := fun r => ([[D.int IntKind.i64 r]], [])) (K := K.impl_EreEnd) (L := L.impl_EreEnd) (by kernel_rfl) (kcons_ok (P.impl_quotedEnd_ok C.impl_quotedEnd pnil_ok) knil_ok) (by rw [LC.impl_EreEnd]; exact LOk.nil) (by rw [E.impl_EreEnd, M.impl_EreEnd_n] <;> rfl) h

/-! impl_isKeywordKind -/
def H.impl_isKeywordKind (o : Int → Option (Bool)) : Prop := ∀ (kind : Int) (r : Bool), o kind = some r → call X0 124 [V.d (D.int IntKind.i64 kind)] [] = some ([[D.bool r]], [])
def P.impl_isKeywordKind (o : Int → Option (Bool)) (q : List V → List Cell → Res (List Row × List Cell)) (a : List V) (c : List Cell) : Res (List Row × List Cell) := match a, c with
  | [V.d (D.int IntKind.i64 kind)], [] => ⟨Bool, o kind, fun r => ([[D.bool r]], [])⟩
  | a, c => q a c
theorem P.impl_isKeywordKind_ok {o : Int → Option (Bool)} {q : List V → List Cell → Res (List Row × List Cell)} (h : H.impl_isKeywordKind o) (hq : FnOk X0 124 q) : FnOk X0 124 (P.impl_isKeywordKind o q) := by
  intro a c r hr
  unfold P.impl_isKeywordKind at hr
  split at hr
  · obtain ⟨x, hx, rfl⟩ := Res.val_some hr
    exact h _ x hx
  · exact hq _ _ _ hr
noncomputable def M.impl_isKeywordKind_C {R : Type} (kind : Int) (k : Bool → Option R) : Option R :=
  (M.impl_within kind 10 26).bind fun r364 => (k r364)
noncomputable def M.impl_isKeywordKind (kind : Int) : Option (Bool) := M.impl_isKeywordKind_C kind some
theorem M.impl_isKeywordKind_n {R : Type} (kind : Int) (k : Bool → Option R) : M.impl_isKeywordKind_C kind k = (M.impl_isKeywordKind_C kind some).bind k := by
  simp only [M.impl_isKeywordKind_C, bif_bind, bind_bind, some_bind, none_bind, sumE_bind, optE_bind, letE_bind]
noncomputable def K.impl_isKeywordKind : KonC := (kcons 64 (P.impl_within M.impl_within pnil) knil)
noncomputable def L.impl_isKeywordKind : LoopC := lnil
theorem E.impl_isKeywordKind {R : Type} (kind : Int) (k : List Row → List Cell → Option R) : bodyC X0 (K.impl_isKeywordKind) (L.impl_isKeywordKind) 124 [V.d (D.int IntKind.i64 kind)] [] k = M.impl_isKeywordKind_C kind (fun r => k [[D.bool r]] []) := by kernel_rfl
theorem LC.impl_isKeywordKind : loops (codeOf X0.P 124) = [] := by kernel_rfl
theorem C.impl_isKeywordKind : H.impl_isKeywordKind (M.impl_isKeywordKind) := by
  intro kind r h
  exact fn_sound (enc := fun r => ([[D.bool r]], [])) (K := K.impl_isKeywordKind) (L := L.impl_isKeywordKind) (by kernel_rfl) (kcons_ok (P.impl_within_ok C.impl_within pnil_ok) knil_ok) (by rw [LC.impl_isKeywordKind]; exact LOk.nil) (by rw [E.impl_isKeywordKind, M.impl_isKeywordKind_n] <;> rfl) h

/-! impl_isSignKind -/
def H.impl_isSignKind (o : Int → Option (Bool)) : Prop := ∀ (kind : Int) (r : Bool), o kind = some r → call X0 125 [V.d (D.int IntKind.i64 kind)] [] = some ([[D.bool r]], [])
def P.impl_isSignKind (o : Int → Option (Bool)) (q : List V → List Cell → Res (List Row × List Cell)) (a : List V) (c : List Cell) : Res (List Row × List Cell) := match a, c with
  | [V.d (D.int IntKind.i64 kind)], [] => ⟨Bool, o kind, fun r => ([[D.bool r]], [])⟩
  | a, c => q a c
theorem P.impl_isSignKind_ok {o : Int → Option (Bool)} {q : List V → List Cell → Res (List Row × List Cell)} (h : H.impl_isSignKind o) (hq : FnOk X0 125 q) : FnOk X0 125 (P.impl_isSignKind o q) := by
  intro a c r hr
  unfold P.impl_isSignKind at hr
  split at hr
  · obtain ⟨x, hx, rfl⟩ := Res.val_some hr
    exact h _ x hx
  · exact hq _ _ _ hr
noncomputable def M.impl_isSignKind_C {R : Type} (kind : Int) (k : Bool → Option R) : Option R :=
  (M.impl_within kind 30 68).bind fun r367 => (k r367)
noncomputable def M.impl_isSignKind (kind : Int) : Option (Bool) := M.impl_isSignKind_C kind some
theorem M.impl_isSignKind_n {R : Type} (kind : Int) (k : Bool → Option R) : M.impl_isSignKind_C kind k = (M.impl_isSignKind_C kind some).bind k := by
  simp only [M.impl_isSignKind_C, bif_bind, bind_bind, some_bind, none_bind, sumE_bind, optE_bind, letE_bind]
noncomputable def K.impl_isSignKind : KonC := (kcons 64 (P.impl_within M.impl_within pnil) knil)
noncomputable def L.impl_isSignKind : LoopC := lnil
theorem E.impl_isSignKind {R : Type} (kind : Int) (k : List Row → List Cell → Option R) : bodyC X0 (K.impl_isSignKind) (L.impl_isSignKind) 125 [V.d (D.int IntKind.i64 kind)] [] k = M.impl_isSignKind_C kind (fun r => k [[D.bool r]] []) := by kernel_rfl
theorem LC.impl_isSignKind : loops (codeOf X0.P 125) = [] := by kernel_rfl
theorem C.impl_isSignKind : H.impl_isSignKind (M.impl_isSignKind) := by
  intro kind r h
  exact fn_sound (enc := fun r => ([[D.bool r]], [])) (K := K.impl_isSignKind) (L := L.impl_isSignKind) (by kernel_rfl) (kcons_ok (P.impl_within_ok C.impl_within pnil_ok) knil_ok) (by rw [LC.impl_isSignKind]; exact LOk.nil) (by rw [E.impl_isSignKind, M.impl_isSignKind_n] <;> rfl) h

/-! impl_SpellOf -/
def H.impl_SpellOf (o : Int → Option (List UInt8)) : Prop := ∀ (kind : Int) (r : List UInt8), o kind = some r → call X0 108 [V.d (D.int IntKind.i64 kind)] [] = some ([[D.str r]], [])
def P.impl_SpellOf (o : Int → Option (List UInt8)) (q : List V → List Cell → Res (List Row × List Cell)) (a : List V) (c : List Cell) : Res (List Row × List Cell) := match a, c with
  | [V.d (D.int IntKind.i64 kind)], [] => ⟨List UInt8, o kind, fun r => ([[D.str r]], [])⟩
  | a, c => q a c
theorem P.impl_SpellOf_ok {o : Int → Option (List UInt8)} {q : List V → List Cell → Res (List Row × List Cell)} (h : H.impl_SpellOf o) (hq : FnOk X0 108 q) : FnOk X0 108 (P.impl_SpellOf o q) := by
  intro a c r hr
  unfold P.impl_SpellOf at hr
  split at hr
  · obtain ⟨x, hx, rfl⟩ := Res.val_some hr
    exact h _ x hx
  · exact hq _ _ _ hr
noncomputable def M.impl_SpellOf_C {R : Type} (kind : Int) (k : List UInt8 → Option R) : Option R :=
  bif kind == 1 then (k [10]) else
   ((M.impl_isKeywordKind kind).bind fun r365 =>
    (bif r365 then
     (bif decide (0 ≤ IntKind.i64.wrap (kind - 10)) && decide (IntKind.i64.wrap (kind - 10) < 17) then
      ((cStr keywordsRow (0 + (IntKind.i64.wrap (kind - 10)).toNat * 1)).bind fun s366 => (k s366)) else none) else
     ((M.impl_isSignKind kind).bind fun r368 =>
      (bif r368 then
       (bif decide (0 ≤ IntKind.i64.wrap (kind - 30)) && decide (IntKind.i64.wrap (kind - 30) < 39) then ((cStr signsRow (0 + (IntKind.i64.wrap (kind - 30)).toNat * 1)).bind fun s369 => (k s369)) else none) else (k [])))))
noncomputable def M.impl_SpellOf (kind : Int) : Option (List UInt8) := M.impl_SpellOf_C kind some
theorem M.impl_SpellOf_n {R : Type} (kind : Int) (k : List UInt8 → Option R) : M.impl_SpellOf_C kind k = (M.impl_SpellOf_C kind some).bind k := by
  simp only [M.impl_SpellOf_C, bif_bind, bind_bind, some_bind, none_bind, sumE_bind, optE_bind, letE_bind]
noncomputable def K.impl_SpellOf : KonC := (kcons 124 (P.impl_isKeywordKind M.impl_isKeywordKind pnil) (kcons 125 (P.impl_isSignKind M.impl_isSignKind pnil) knil))
noncomputable def L.impl_SpellOf : LoopC := lnil
theorem E.impl_SpellOf {R : Type} (kind : Int) (k : List Row → List Cell → Option R) : bodyC X0 (K.impl_SpellOf) (L.impl_SpellOf) 108 [V.d (D.int IntKind.i64 kind)] [] k = M.impl_SpellOf_C kind (fun r => k [[D.str r]] []) := by kernel_rfl
theorem LC.impl_SpellOf : loops (codeOf X0.P 108) = [] := by kernel_rfl
theorem C.impl_SpellOf : H.impl_SpellOf (M.impl_SpellOf) := by
  intro kind r h
  exact fn_sound (enc := fun r => ([[D.str r]], [])) (K := K.impl_SpellOf) (L := L.impl_SpellOf) (by kernel_rfl) (kcons_ok (P.impl_isKeywordKind_ok C.impl_isKeywordKind pnil_ok) (kcons_ok (P.impl_isSignKind_ok C.impl_isSignKind pnil_ok) knil_ok)) (by rw [LC.impl_SpellOf]; exact LOk.nil) (by rw [E.impl_SpellOf, M.impl_SpellOf_n] <;> rfl) h

/-! impl_TokenOk -/
def H.impl_TokenOk (o : Int → List UInt8 → Int → Option (Bool)) : Prop := ∀ (t' : Int) (t'1 : List UInt8) (t'2 : Int) (r : Bool), o t' t'1 t'2 = some r → call X0 84 [V.agg [V.d (D.int IntKind.i64 t'), V.d (D.str t'1), V.d (D.int IntKind.i64 t'2)]] [] = some ([[D.bool r]], [])
def P.impl_TokenOk (o : Int → List UInt8 → Int → Option (Bool)) (q : List V → List Cell → Res (List Row × List Cell)) (a : List V) (c : List Cell) : Res (List Row × List Cell) := match a, c with
  | [V.agg [V.d (D.int IntKind.i64 t'), V.d (D.str t'1), V.d (D.int IntKind.i64 t'2)]], [] => ⟨Bool, o t' t'1 t'2, fun r => ([[D.bool r]], [])⟩
  | a, c => q a c
theorem P.impl_TokenOk_ok {o : Int → List UInt8 → Int → Option (Bool)} {q : List V → List Cell → Res (List Row × List Cell)} (h : H.impl_TokenOk o) (hq : FnOk X0 84 q) : FnOk X0 84 (P.impl_TokenOk o q) := by
  intro a c r hr
  unfold P.impl_TokenOk at hr
  split at hr
  · obtain ⟨x, hx, rfl⟩ := Res.val_some hr
    exact h _ _ _ x hx
  · exact hq _ _ _ hr
noncomputable def M.impl_TokenOk_C {R : Type} (t' : Int) (t'1 : List UInt8) (t'2 : Int) (k : Bool → Option R) : Option R :=
  bif t'1 == [] then (k false) else
   (bif t' == 2 then
    ((idx t'1 0).bind fun c318 =>
     (bif (↑c318.toNat : Int) == 35 then ((M.strings_Contains t'1 [10]).bind fun r319 => (k !r319)) else (k false))) else
    (bif t' == 3 then ((M.impl_NumEnd t'1 0).bind fun r347 => (k (r347 == (↑t'1.length : Int)))) else
     (bif t' == 4 then ((M.impl_StrEnd t'1 0).bind fun r358 => (k (r358 == (↑t'1.length : Int)))) else
      (bif t' == 5 then ((M.impl_EreEnd t'1 0).bind fun r360 => (k (r360 == (↑t'1.length : Int)))) else
       (bif t' == 6 then ((M.impl_NameOk t'1).bind fun r361 => (k r361)) else
        (bif t' == 7 then ((M.impl_NameOk t'1).bind fun r362 => (k r362)) else
         (bif t' == 8 then ((M.impl_IsBuiltin t'1).bind fun r363 => (k r363)) else ((M.impl_SpellOf t').bind fun r370 => (k (t'1 == r370))))))))))
noncomputable def M.impl_TokenOk (t' : Int) (t'1 : List UInt8) (t'2 : Int) : Option (Bool) := M.impl_TokenOk_C t' t'1 t'2 some
theorem M.impl_TokenOk_n {R : Type} (t' : Int) (t'1 : List UInt8) (t'2 : Int) (k : Bool → Option R) : M.impl_TokenOk_C t' t'1 t'2 k = (M.impl_TokenOk_C t' t'1 t'2 some).bind k := by
  simp only [M.impl_TokenOk_C, bif_bind, bind_bind, some_bind, none_bind, sumE_bind, optE_bind, letE_bind]
noncomputable def K.impl_TokenOk : KonC := (kcons 104 (P.strings_Contains M.strings_Contains pnil) (kcons 105 (P.impl_NumEnd M.impl_NumEnd pnil) (kcons 106 (P.impl_StrEnd M.impl_StrEnd pnil) (kcons 107 (P.impl_EreEnd M.impl_EreEnd pnil) (kcons 83 (P.impl_NameOk M.impl_NameOk pnil) (kcons 85 (P.impl_IsBuiltin M.impl_IsBuiltin pnil) (kcons 108 (P.impl_SpellOf M.impl_SpellOf pnil) knil)))))))
noncomputable def L.impl_TokenOk : LoopC := lnil
theorem E.impl_TokenOk {R : Type} (t' : Int) (t'1 : List UInt8) (t'2 : Int) (k : List Row → List Cell → Option R) : bodyC X0 (K.impl_TokenOk) (L.impl_TokenOk) 84 [V.agg [V.d (D.int IntKind.i64 t'), V.d (D.str t'1), V.d (D.int IntKind.i64 t'2)]] [] k = M.impl_TokenOk_C t' t'1 t'2 (fun r => k [[D.bool r]] []) := by kernel_rfl
theorem LC.impl_TokenOk : loops (codeOf X0.P 84) = [] := by kernel_rfl
theorem C.impl_TokenOk : H.impl_TokenOk (M.impl_TokenOk) := by
  intro t' t'1 t'2 r h
  exact fn_sound (enc := fun r => ([[D.bool r]], [])) (K := K.impl_TokenOk) (L := L.impl_TokenOk) (by kernel_rfl) (kcons_ok (P.strings_Contains_ok C.strings_Contains pnil_ok) (kcons_ok (P.impl_NumEnd_ok C.impl_NumEnd pnil_ok) (kcons_ok (P.impl_StrEnd_ok C.impl_StrEnd pnil_ok) (kcons_ok (P.impl_EreEnd_ok C.impl_EreEnd pnil_ok) (kcons_ok (P.impl_NameOk_ok C.impl_NameOk pnil_ok) (kcons_ok (P.impl_IsBuiltin_ok C.impl_IsBuiltin pnil_ok) (kcons_ok (P.impl_SpellOf_ok C.impl_SpellOf pnil_ok) knil_ok))))))) (by rw [LC.impl_TokenOk]; exact LOk.nil) (by rw [E.impl_TokenOk, M.impl_TokenOk_n] <;> rfl) h

/-! impl_isStep -/
def H.impl_isStep (o : Int → Option (Bool)) : Prop := ∀ (kind : Int) (r : Bool), o kind = some r → call X0 86 [V.d (D.int IntKind.i64 kind)] [] = some ([[D.bool r]], [])
def P.impl_isStep (o : Int → Option (Bool)) (q : List V → List Cell → Res (List Row × List Cell)) (a : List V) (c : List Cell) : Res (List Row × List Cell) := match a, c with
  | [V.d (D.int IntKind.i64 kind)], [] => ⟨Bool, o kind, fun r => ([[D.bool r]], [])⟩
  | a, c => q a c
theorem P.impl_isStep_ok {o : Int → Option (Bool)} {q : List V → List Cell → Res (List Row × List Cell)} (h : H.impl_isStep o) (hq : FnOk X0 86 q) : FnOk X0 86 (P.impl_isStep o q) := by
  intro a c r hr
  unfold P.impl_isStep at hr
  split at hr
  · obtain ⟨x, hx, rfl⟩ := Res.val_some hr
    exact h _ x hx
  · exact hq _ _ _ hr
noncomputable def M.impl_isStep_C {R : Type} (kind : Int) (k : Bool → Option R) : Option R :=
  bif kind == 51 then (k true) else (k (kind == 52))
noncomputable def M.impl_isStep (kind : Int) : Option (Bool) := M.impl_isStep_C kind some
theorem M.impl_isStep_n {R : Type} (kind : Int) (k : Bool → Option R) : M.impl_isStep_C kind k = (M.impl_isStep_C kind some).bind k := by
  simp only [M.impl_isStep_C, bif_bind, bind_bind, some_bind, none_bind, sumE_bind, optE_bind, letE_bind]
noncomputable def K.impl_isStep : KonC := knil
noncomputable def L.impl_isStep : LoopC := lnil
theorem E.impl_isStep {R : Type} (kind : Int) (k : List Row → List Cell → Option R) : bodyC X0 (K.impl_isStep) (L.impl_isStep) 86 [V.d (D.int IntKind.i64 kind)] [] k = M.impl_isStep_C kind (fun r => k [[D.bool r]] []) := by kernel_rfl
theorem LC.impl_isStep : loops (codeOf X0.P 86) = [] := by kernel_rfl
theorem C.impl_isStep : H.impl_isStep (M.impl_isStep) := by
  intro kind r h
  exact fn_sound (enc := fun r => ([[D.bool r]], [])) (K := K.impl_isStep) (L := L.impl_isStep) (by kernel_rfl) knil_ok (by rw [LC.impl_isStep]; exact LOk.nil) (by rw [E.impl_isStep, M.impl_isStep_n] <;> rfl) h

/-! impl_OpLevel -/
def H.impl_OpLevel (o : Int → Option (Int)) : Prop := ∀ (op' : Int) (r : Int), o op' = some r → call X0 87 [V.d (D.int IntKind.i64 op')] [] = some ([[D.int IntKind.i64 r]], [])
def P.impl_OpLevel (o : Int → Option (Int)) (q : List V → List Cell → Res (List Row × List Cell)) (a : List V) (c : List Cell) : Res (List Row × List Cell) := match a, c with
  | [V.d (D.int IntKind.i64 op')], [] => ⟨Int, o op', fun r => ([[D.int IntKind.i64 r]], [])⟩
  | a, c => q a c
theorem P.impl_OpLevel_ok {o : Int → Option (Int)} {q : List V → List Cell → Res (List Row × List Cell)} (h : H.impl_OpLevel o) (hq : FnOk X0 87 q) : FnOk X0 87 (P.impl_OpLevel o q) := by
  intro a c r hr
  unfold P.impl_OpLevel at hr
  split at hr
  · obtain ⟨x, hx, rfl⟩ := Res.val_some hr
    exact h _ x hx
  · exact hq _ _ _ hr
noncomputable def M.impl_OpLevel_C {R : Type} (op' : Int) (k : Int → Option R) : Option R :=
  bif op' == 44 then (k 3) else
   (bif op' == 45 then (k 4) else
    (bif op' == 67 then (k 6) else
     (bif op' == 46 then (k 6) else
      (bif op' == 63 then (k 7) else
       (bif op' == 48 then (k 7) else
        (bif op' == 47 then (k 7) else
         (bif op' == 50 then (k 7) else
          (bif op' == 62 then (k 7) else
           (bif op' == 49 then (k 7) else
            (bif op' == 99 then (k 8) else
             (bif op' == 55 then (k 9) else
              (bif op' == 56 then (k 9) else
               (bif op' == 57 then (k 10) else
                (bif op' == 58 then (k 10) else (bif op' == 59 then (k 10) else (bif op' == 60 then (k 12) else (k 0)))))))))))))))))
noncomputable def M.impl_OpLevel (op' : Int) : Option (Int) := M.impl_OpLevel_C op' some
theorem M.impl_OpLevel_n {R : Type} (op' : Int) (k : Int → Option R) : M.impl_OpLevel_C op' k = (M.impl_OpLevel_C op' some).bind k := by
  simp only [M.impl_OpLevel_C, bif_bind, bind_bind, some_bind, none_bind, sumE_bind, optE_bind, letE_bind]
noncomputable def K.impl_OpLevel : KonC := knil
noncomputable def L.impl_OpLevel : LoopC := lnil
theorem E.impl_OpLevel {R : Type} (op' : Int) (k : List Row → List Cell → Option R) : bodyC X0 (K.impl_OpLevel) (L.impl_OpLevel) 87 [V.d (D.int IntKind.i64 op')] [] k = M.impl_OpLevel_C op' (fun r => k [[D.int IntKind.i64 r]] []) := by kernel_rfl
theorem LC.impl_OpLevel : loops (codeOf X0.P 87) = [] := by kernel_rfl
theorem C.impl_OpLevel : H.impl_OpLevel (M.impl_OpLevel) := by
  intro op' r h
  exact fn_sound (enc := fun r => ([[D.int IntKind.i64 r]], [])) (K := K.impl_OpLevel) (L := L.impl_OpLevel) (by kernel_rfl) knil_ok (by rw [LC.impl_OpLevel]; exact LOk.nil) (by rw [E.impl_OpLevel, M.impl_OpLevel_n] <;> rfl) h

/-! impl_isAssign -/
def H.impl_isAssign (o : Int → Option (Bool)) : Prop := ∀ (kind : Int) (r : Bool), o kind = some r → call X0 88 [V.d (D.int IntKind.i64 kind)] [] = some ([[D.bool r]], [])
def P.impl_isAssign (o : Int → Option (Bool)) (q : List V → List Cell → Res (List Row × List Cell)) (a : List V) (c : List Cell) : Res (List Row × List Cell) := match a, c with
  | [V.d (D.int IntKind.i64 kind)], [] => ⟨Bool, o kind, fun r => ([[D.bool r]], [])⟩
  | a, c => q a c
theorem P.impl_isAssign_ok {o : Int → Option (Bool)} {q : List V → List Cell → Res (List Row × List Cell)} (h : H.impl_isAssign o) (hq : FnOk X0 88 q) : FnOk X0 88 (P.impl_isAssign o q) := by
  intro a c r hr
  unfold P.impl_isAssign at hr
  split at hr
  · obtain ⟨x, hx, rfl⟩ := Res.val_some hr
    exact h _ x hx
  · exact hq _ _ _ hr
noncomputable def M.impl_isAssign_C {R : Type} (kind : Int) (k : Bool → Option R) : Option R :=
  bif kind == 54 then (k true) else ((M.impl_within kind 38 43).bind fun r383 => (k r383))
noncomputable def M.impl_isAssign (kind : Int) : Option (Bool) := M.impl_isAssign_C kind some
theorem M.impl_isAssign_n {R : Type} (kind : Int) (k : Bool → Option R) : M.impl_isAssign_C kind k = (M.impl_isAssign_C kind some).bind k := by
  simp only [M.impl_isAssign_C, bif_bind, bind_bind, some_bind, none_bind, sumE_bind, optE_bind, letE_bind]
noncomputable def K.impl_isAssign : KonC := (kcons 64 (P.impl_within M.impl_within pnil) knil)
noncomputable def L.impl_isAssign : LoopC := lnil
theorem E.impl_isAssign {R : Type} (kind : Int) (k : List Row → List Cell → Option R) : bodyC X0 (K.impl_isAssign) (L.impl_isAssign) 88 [V.d (D.int IntKind.i64 kind)] [] k = M.impl_isAssign_C kind (fun r => k [[D.bool r]] []) := by kernel_rfl
theorem LC.impl_isAssign : loops (codeOf X0.P 88) = [] := by kernel_rfl
theorem C.impl_isAssign : H.impl_isAssign (M.impl_isAssign) := by
  intro kind r h
  exact fn_sound (enc := fun r => ([[D.bool r]], [])) (K := K.impl_isAssign) (L := L.impl_isAssign) (by kernel_rfl) (kcons_ok (P.impl_within_ok C.impl_within pnil_ok) knil_ok) (by rw [LC.impl_isAssign]; exact LOk.nil) (by rw [E.impl_isAssign, M.impl_isAssign_n] <;> rfl) h

/-! impl_exprForm -/
def H.impl_exprForm (o : Int → Int → List UInt8 → List UInt8 → List Row → Option (Bool × Bool × Bool × Int × Int)) : Prop := ∀ (n' : Int) (n'1 : Int) (n'2 : List UInt8) (n'3 : List UInt8) (n'4 : List Row) (r : Bool × Bool × Bool × Int × Int), o n' n'1 n'2 n'3 n'4 = some r → call X0 61 [V.agg [V.d (D.int IntKind.i64 n'), V.d (D.int IntKind.i64 n'1), V.d (D.str n'2), V.d (D.str n'3), V.d (D.sl false 1 n'4)]] [] = some ([[D.bool r.fst, D.bool r.snd.fst, D.bool r.snd.snd.fst, D.int IntKind.i64 r.snd.snd.snd.fst, D.int IntKind.i64 r.snd.snd.snd.snd]], [])
def P.impl_exprForm (o : Int → Int → List UInt8 → List UInt8 → List Row → Option (Bool × Bool × Bool × Int × Int)) (q : List V → List Cell → Res (List Row × List Cell)) (a : List V) (c : List Cell) : Res (List Row × List Cell) := match a, c with
  | [V.agg [V.d (D.int IntKind.i64 n'), V.d (D.int IntKind.i64 n'1), V.d (D.str n'2), V.d (D.str n'3), V.d (D.sl false 1 n'4)]], [] => ⟨Bool × Bool × Bool × Int × Int, o n' n'1 n'2 n'3 n'4, fun r => ([[D.bool r.fst, D.bool r.snd.fst, D.bool r.snd.snd.fst, D.int IntKind.i64 r.snd.snd.snd.fst, D.int IntKind.i64 r.snd.snd.snd.snd]], [])⟩
  | a, c => q a c
theorem P.impl_exprForm_ok {o : Int → Int → List UInt8 → List UInt8 → List Row → Option (Bool × Bool × Bool × Int × Int)} {q : List V → List Cell → Res (List Row × List Cell)} (h : H.impl_exprForm o) (hq : FnOk X0 61 q) : FnOk X0 61 (P.impl_exprForm o q) := by
  intro a c r hr
  unfold P.impl_exprForm at hr
  split at hr
  · obtain ⟨x, hx, rfl⟩ := Res.val_some hr
    exact h _ _ _ _ _ x hx
  · exact hq _ _ _ hr
noncomputable def M.impl_exprForm_C {R : Type} (n' : Int) (n'1 : Int) (n'2 : List UInt8) (n'3 : List UInt8) (n'4 : List Row) (k : Bool × Bool × Bool × Int × Int → Option R) : Option R :=
  bif n' == 1 then ((M.impl_NameOk n'2).bind fun r316 => (k ((n'1 == 0, r316, false, 0, 0)))) else
   (bif n' == 2 then
    (bif decide (0 ≤ IntKind.i64.wrap (n' - 2)) && decide (IntKind.i64.wrap (n' - 2) < 3) then
     ((cInt IntKind.i64 [D.int IntKind.i64 3, D.int IntKind.i64 4, D.int IntKind.i64 5] (IntKind.i64.wrap (n' - 2)).toNat).bind fun n317 => ((M.impl_TokenOk n317 n'2 0).bind fun r371 => (k ((n'1 == 0, r371, false, 0, 0))))) else none) else
    (bif n' == 3 then
     (bif decide (0 ≤ IntKind.i64.wrap (n' - 2)) && decide (IntKind.i64.wrap (n' - 2) < 3) then
      ((cInt IntKind.i64 [D.int IntKind.i64 3, D.int IntKind.i64 4, D.int IntKind.i64 5] (IntKind.i64.wrap (n' - 2)).toNat).bind fun n372 => ((M.impl_TokenOk n372 n'2 0).bind fun r373 => (k ((n'1 == 0, r373, false, 0, 0))))) else none) else
     (bif n' == 4 then
      (bif decide (0 ≤ IntKind.i64.wrap (n' - 2)) && decide (IntKind.i64.wrap (n' - 2) < 3) then
       ((cInt IntKind.i64 [D.int IntKind.i64 3, D.int IntKind.i64 4, D.int IntKind.i64 5] (IntKind.i64.wrap (n' - 2)).toNat).bind fun n374 => ((M.impl_TokenOk n374 n'2 0).bind fun r375 => (k ((n'1 == 0, r375, false, 0, 0))))) else none) else
      (bif n' == 5 then ((M.impl_NameOk n'2).bind fun r376 => (k ((n'1 == 0, r376, false, 1, 6)))) else
       (bif n' == 13 then ((M.impl_NameOk n'2).bind fun r377 => (k ((n'1 == 0, r377, false, 1, 6)))) else
        (bif n' == 6 then (k ((n'1 == 0, n'2 == [], false, 1, 1))) else
         (bif n' == 7 then ((M.impl_NameOk n'2).bind fun r378 => (k ((n'1 == 0, r378, false, 0, 6)))) else
          (bif n' == 8 then ((M.impl_IsBuiltin n'2).bind fun r379 => (k ((n'1 == 0, r379, false, 0, 6)))) else
           (bif n' == 9 then ((M.impl_isStep n'1).bind fun r380 => (k ((r380, n'2 == [], false, 1, 1)))) else
            (bif n' == 10 then ((M.impl_isStep n'1).bind fun r381 => (k ((r381, n'2 == [], false, 1, 1)))) else
             (bif n' == 11 then
              (bif n'1 == 55 then (k ((true, n'2 == [], false, 1, 1))) else
               (bif n'1 == 56 then (k ((true, n'2 == [], false, 1, 1))) else (k ((n'1 == 61, n'2 == [], false, 1, 1))))) else
              (bif n' == 12 then ((M.impl_OpLevel n'1).bind fun r382 => (k ((r382 != 0, n'2 == [], false, 2, 2)))) else
               (bif n' == 14 then (k ((n'1 == 0, n'2 == [], false, 3, 3))) else ((M.impl_isAssign n'1).bind fun r384 => (k ((r384, n'2 == [], false, 2, 2)))))))))))))))))
noncomputable def M.impl_exprForm (n' : Int) (n'1 : Int) (n'2 : List UInt8) (n'3 : List UInt8) (n'4 : List Row) : Option (Bool × Bool × Bool × Int × Int) := M.impl_exprForm_C n' n'1 n'2 n'3 n'4 some
theorem M.impl_exprForm_n {R : Type} (n' : Int) (n'1 : Int) (n'2 : List UInt8) (n'3 : List UInt8) (n'4 : List Row) (k : Bool × Bool × Bool × Int × Int → Option R) : M.impl_exprForm_C n' n'1 n'2 n'3 n'4 k = (M.impl_exprForm_C n' n'1 n'2 n'3 n'4 some).bind k := by
  simp only [M.impl_exprForm_C, bif_bind, bind_bind, some_bind, none_bind, sumE_bind, optE_bind, letE_bind]
noncomputable def K.impl_exprForm : KonC := (kcons 83 (P.impl_NameOk M.impl_NameOk pnil) (kcons 84 (P.impl_TokenOk M.impl_TokenOk pnil) (kcons 85 (P.impl_IsBuiltin M.impl_IsBuiltin pnil) (kcons 86 (P.impl_isStep M.impl_isStep pnil) (kcons 87 (P.impl_OpLevel M.impl_OpLevel pnil) (kcons 88 (P.impl_isAssign M.impl_isAssign pnil) knil))))))
noncomputable def L.impl_exprForm : LoopC := lnil
theorem E.impl_exprForm {R : Type} (n' : Int) (n'1 : Int) (n'2 : List UInt8) (n'3 : List UInt8) (n'4 : List Row) (k : List Row → List Cell → Option R) : bodyC X0 (K.impl_exprForm) (L.impl_exprForm) 61 [V.agg [V.d (D.int IntKind.i64 n'), V.d (D.int IntKind.i64 n'1), V.d (D.str n'2), V.d (D.str n'3), V.d (D.sl false 1 n'4)]] [] k = M.impl_exprForm_C n' n'1 n'2 n'3 n'4 (fun r => k [[D.bool r.fst, D.bool r.snd.fst, D.bool r.snd.snd.fst, D.int IntKind.i64 r.snd.snd.snd.fst, D.int IntKind.i64 r.snd.snd.snd.snd]] []) := by kernel_rfl
theorem LC.impl_exprForm : loops (codeOf X0.P 61) = [] := by kernel_rfl
theorem C.impl_exprForm : H.impl_exprForm (M.impl_exprForm) := by
  intro n' n'1 n'2 n'3 n'4 r h
  exact fn_sound (enc := fun r => ([[D.bool r.fst, D.bool r.snd.fst, D.bool r.snd.snd.fst, D.int IntKind.i64 r.snd.snd.snd.fst, D.int IntKind.i64 r.snd.snd.snd.snd]], [])) (K := K.impl_exprForm) (L := L.impl_exprForm) (by kernel_rfl) (kcons_ok (P.impl_NameOk_ok C.impl_NameOk pnil_ok) (kcons_ok (P.impl_TokenOk_ok C.impl_TokenOk pnil_ok) (kcons_ok (P.impl_IsBuiltin_ok C.impl_IsBuiltin pnil_ok) (kcons_ok (P.impl_isStep_ok C.impl_isStep pnil_ok) (kcons_ok (P.impl_OpLevel_ok C.impl_OpLevel pnil_ok) (kcons_ok (P.impl_isAssign_ok C.impl_isAssign pnil_ok) knil_ok)))))) (by rw [LC.impl_exprForm]; exact LOk.nil) (by rw [E.impl_exprForm, M.impl_exprForm_n] <;> rfl) h

/-! impl_IsStmt -/
def H.impl_IsStmt (o : Int → Option (Bool)) : Prop := ∀ (kind : Int) (r : Bool), o kind = some r → call X0 62 [V.d (D.int IntKind.i64 kind)] [] = some ([[D.bool r]], [])
def P.impl_IsStmt (o : Int → Option (Bool)) (q : List V → List Cell → Res (List Row × List Cell)) (a : List V) (c : List Cell) : Res (List Row × List Cell) := match a, c with
  | [V.d (D.int IntKind.i64 kind)], [] => ⟨Bool, o kind, fun r => ([[D.bool r]], [])⟩
  | a, c => q a c
theorem P.impl_IsStmt_ok {o : Int → Option (Bool)} {q : List V → List Cell → Res (List Row × List Cell)} (h : H.impl_IsStmt o) (hq : FnOk X0 62 q) : FnOk X0 62 (P.impl_IsStmt o q) := by
  intro a c r hr
  unfold P.impl_IsStmt at hr
  split at hr
  · obtain ⟨x, hx, rfl⟩ := Res.val_some hr
    exact h _ x hx
  · exact hq _ _ _ hr
noncomputable def M.impl_IsStmt_C {R : Type} (kind : Int) (k : Bool → Option R) : Option R :=
  (M.impl_within kind 20 34).bind fun r388 => (k r388)
noncomputable def M.impl_IsStmt (kind : Int) : Option (Bool) := M.impl_IsStmt_C kind some
theorem M.impl_IsStmt_n {R : Type} (kind : Int) (k : Bool → Option R) : M.impl_IsStmt_C kind k = (M.impl_IsStmt_C kind some).bind k := by
  simp only [M.impl_IsStmt_C, bif_bind, bind_bind, some_bind, none_bind, sumE_bind, optE_bind, letE_bind]
noncomputable def K.impl_IsStmt : KonC := (kcons 64 (P.impl_within M.impl_within pnil) knil)
noncomputable def L.impl_IsStmt : LoopC := lnil
theorem E.impl_IsStmt {R : Type} (kind : Int) (k : List Row → List Cell → Option R) : bodyC X0 (K.impl_IsStmt) (L.impl_IsStmt) 62 [V.d (D.int IntKind.i64 kind)] [] k = M.impl_IsStmt_C kind (fun r => k [[D.bool r]] []) := by kernel_rfl
theorem LC.impl_IsStmt : loops (codeOf X0.P 62) = [] := by kernel_rfl
theorem C.impl_IsStmt : H.impl_IsStmt (M.impl_IsStmt) := by
  intro kind r h
  exact fn_sound (enc := fun r => ([[D.bool r]], [])) (K := K.impl_IsStmt) (L := L.impl_IsStmt) (by kernel_rfl) (kcons_ok (P.impl_within_ok C.impl_within pnil_ok) knil_ok) (by rw [LC.impl_IsStmt]; exact LOk.nil) (by rw [E.impl_IsStmt, M.impl_IsStmt_n] <;> rfl) h

/-! impl_stmtForm -/
def H.impl_stmtForm (o : Int → Int → List UInt8 → List UInt8 → List Row → Option (Bool × Bool × Bool × Int × Int)) : Prop := ∀ (n' : Int) (n'1 : Int) (n'2 : List UInt8) (n'3 : List UInt8) (n'4 : List Row) (r : Bool × Bool × Bool × Int × Int), o n' n'1 n'2 n'3 n'4 = some r → call X0 63 [V.agg [V.d (D.int IntKind.i64 n'), V.d (D.int IntKind.i64 n'1), V.d (D.str n'2), V.d (D.str n'3), V.d (D.sl false 1 n'4)]] [] = some ([[D.bool r.fst, D.bool r.snd.fst, D.bool r.snd.snd.fst, D.int IntKind.i64 r.snd.snd.snd.fst, D.int IntKind.i64 r.snd.snd.snd.snd]], [])
def P.impl_stmtForm (o : Int → Int → List UInt8 → List UInt8 → List Row → Option (Bool × Bool × Bool × Int × Int)) (q : List V → List Cell → Res (List Row × List Cell)) (a : List V) (c : List Cell) : Res (List Row × List Cell) := match a, c with
  | [V.agg [V.d (D.int IntKind.i64 n'), V.d (D.int IntKind.i64 n'1), V.d (D.str n'2), V.d (D.str n'3), V.d (D.sl false 1 n'4)]], [] => ⟨Bool × Bool × Bool × Int × Int, o n' n'1 n'2 n'3 n'4, fun r => ([[D.bool r.fst, D.bool r.snd.fst, D.bool r.snd.snd.fst, D.int IntKind.i64 r.snd.snd.snd.fst, D.int IntKind.i64 r.snd.snd.snd.snd]], [])⟩
  | a, c => q a c
theorem P.impl_stmtForm_ok {o : Int → Int → List UInt8 → List UInt8 → List Row → Option (Bool × Bool × Bool × Int × Int)} {q : List V → List Cell → Res (List Row × List Cell)} (h : H.impl_stmtForm o) (hq : FnOk X0 63 q) : FnOk X0 63 (P.impl_stmtForm o q) := by
  intro a c r hr
  unfold P.impl_stmtForm at hr
  split at hr
  · obtain ⟨x, hx, rfl⟩ := Res.val_some hr
    exact h _ _ _ _ _ x hx
  · exact hq _ _ _ hr
noncomputable def M.impl_stmtForm_C {R : Type} (n' : Int) (n'1 : Int) (n'2 : List UInt8) (n'3 : List UInt8) (n'4 : List Row) (k : Bool × Bool × Bool × Int × Int → Option R) : Option R :=
  bif n' == 20 then (k ((n'1 == 0, n'2 == [], n'3 == [], 1, 1))) else
   (bif n' == 21 then
    (bif n'1 == 0 then
     ((M.slices_Contains ([[D.str []], [D.str [62]], [D.str [62, 62]], [D.str [124]]]) n'3).bind fun r390 =>
      (bif !n'3 == [] then (k ((true, n'2 == [], r390, IntKind.i64.wrap (n'1 + 1), 7))) else (k ((true, n'2 == [], r390, n'1, 6))))) else
     ((M.slices_Contains ([[D.str []], [D.str [62]], [D.str [62, 62]], [D.str [124]]]) n'3).bind fun r391 =>
      (bif !n'3 == [] then (k ((n'1 == 1, n'2 == [], r391, IntKind.i64.wrap (n'1 + 1), 7))) else (k ((n'1 == 1, n'2 == [], r391, n'1, 6)))))) else
    (bif n' == 23 then (k ((n'1 == 0, n'2 == [], n'3 == [], 0, 1))) else
     (bif n' == 24 then (k ((n'1 == 0, n'2 == [], n'3 == [], 0, 1))) else
      (bif n' == 27 then ((M.impl_NameOk n'2).bind fun r392 => (k ((n'1 == 0, r392, n'3 == [], 0, 6)))) else
       (bif n' == 28 then (k ((n'1 == 0, n'2 == [], n'3 == [], 2, 3))) else
        (bif n' == 29 then (k ((n'1 == 0, n'2 == [], n'3 == [], 2, 2))) else
         (bif n' == 30 then (k ((n'1 == 0, n'2 == [], n'3 == [], 2, 2))) else
          (bif n' == 31 then (k ((n'1 == 0, n'2 == [], n'3 == [], 4, 4))) else
           (bif n' == 32 then
            ((M.impl_NameOk n'2).bind fun r393 => ((M.impl_NameOk n'3).bind fun r394 => (k ((n'1 == 0, r393, r394, 1, 1))))) else
            (bif n' == 33 then (k ((n'1 == 0, n'2 == [], n'3 == [], 0, 400))) else
             (bif n' == 34 then ((M.impl_TokenOk 2 n'2 0).bind fun r395 => (k ((n'1 == 0, r395, n'3 == [], 0, 0)))) else (k ((n'1 == 0, n'2 == [], n'3 == [], 0, 0))))))))))))))
noncomputable def M.impl_stmtForm (n' : Int) (n'1 : Int) (n'2 : List UInt8) (n'3 : List UInt8) (n'4 : List Row) : Option (Bool × Bool × Bool × Int × Int) := M.impl_stmtForm_C n' n'1 n'2 n'3 n'4 some
theorem M.impl_stmtForm_n {R : Type} (n' : Int) (n'1 : Int) (n'2 : List UInt8) (n'3 : List UInt8) (n'4 : List Row) (k : Bool × Bool × Bool × Int × Int → Option R) : M.impl_stmtForm_C n' n'1 n'2 n'3 n'4 k = (M.impl_stmtForm_C n' n'1 n'2 n'3 n'4 some).bind k := by
  simp only [M.impl_stmtForm_C, bif_bind, bind_bind, some_bind, none_bind, sumE_bind, optE_bind, letE_bind]
noncomputable def K.impl_stmtForm : KonC := (kcons 89 (P.slices_Contains M.slices_Contains pnil) (kcons 83 (P.impl_NameOk M.impl_NameOk pnil) (kcons 84 (P.impl_TokenOk M.impl_TokenOk pnil) knil)))
noncomputable def L.impl_stmtForm : LoopC := lnil
theorem E.impl_stmtForm {R : Type} (n' : Int) (n'1 : Int) (n'2 : List UInt8) (n'3 : List UInt8) (n'4 : List Row) (k : List Row → List Cell → Option R) : bodyC X0 (K.impl_stmtForm) (L.impl_stmtForm) 63 [V.agg [V.d (D.int IntKind.i64 n'), V.d (D.int IntKind.i64 n'1), V.d (D.str n'2), V.d (D.str n'3), V.d (D.sl false 1 n'4)]] [] k = M.impl_stmtForm_C n' n'1 n'2 n'3 n'4 (fun r => k [[D.bool r.fst, D.bool r.snd.fst, D.bool r.snd.snd.fst, D.int IntKind.i64 r.snd.snd.snd.fst, D.int IntKind.i64 r.snd.snd.snd.snd]] []) := by kernel_rfl
theorem LC.impl_stmtForm : loops (codeOf X0.P 63) = [] := by kernel_rfl
theorem C.impl_stmtForm : H.impl_stmtForm (M.impl_stmtForm) := by
  intro n' n'1 n'2 n'3 n'4 r h
  exact fn_sound (enc := fun r => ([[D.bool r.fst, D.bool r.snd.fst, D.bool r.snd.snd.fst, D.int IntKind.i64 r.snd.snd.snd.fst, D.int IntKind.i64 r.snd.snd.snd.snd]], [])) (K := K.impl_stmtForm) (L := L.impl_stmtForm) (by kernel_rfl) (kcons_ok (P.slices_Contains_ok C.slices_Contains pnil_ok) (kcons_ok (P.impl_NameOk_ok C.impl_NameOk pnil_ok) (kcons_ok (P.impl_TokenOk_ok C.impl_TokenOk pnil_ok) knil_ok))) (by rw [LC.impl_stmtForm]; exact LOk.nil) (by rw [E.impl_stmtForm, M.impl_stmtForm_n] <;> rfl) h

/-! impl_itemForm -/
def H.impl_itemForm (o : Int → Int → List UInt8 → List UInt8 → List Row → Option (Bool × Bool × Bool × Int × Int)) : Prop := ∀ (n' : Int) (n'1 : Int) (n'2 : List UInt8) (n'3 : List UInt8) (n'4 : List Row) (r : Bool × Bool × Bool × Int × Int), o n' n'1 n'2 n'3 n'4 = some r → call X0 65 [V.agg [V.d (D.int IntKind.i64 n'), V.d (D.int IntKind.i64 n'1), V.d (D.str n'2), V.d (D.str n'3), V.d (D.sl false 1 n'4)]] [] = some ([[D.bool r.fst, D.bool r.snd.fst, D.bool r.snd.snd.fst, D.int IntKind.i64 r.snd.snd.snd.fst, D.int IntKind.i64 r.snd.snd.snd.snd]], [])
def P.impl_itemForm (o : Int → Int → List UInt8 → List UInt8 → List Row → Option (Bool × Bool × Bool × Int × Int)) (q : List V → List Cell → Res (List Row × List Cell)) (a : List V) (c : List Cell) : Res (List Row × List Cell) := match a, c with
  | [V.agg [V.d (D.int IntKind.i64 n'), V.d (D.int IntKind.i64 n'1), V.d (D.str n'2), V.d (D.str n'3), V.d (D.sl false 1 n'4)]], [] => ⟨Bool × Bool × Bool × Int × Int, o n' n'1 n'2 n'3 n'4, fun r => ([[D.bool r.fst, D.bool r.snd.fst, D.bool r.snd.snd.fst, D.int IntKind.i64 r.snd.snd.snd.fst, D.int IntKind.i64 r.snd.snd.snd.snd]], [])⟩
  | a, c => q a c
theorem P.impl_itemForm_ok {o : Int → Int → List UInt8 → List UInt8 → List Row → Option (Bool × Bool × Bool × Int × Int)} {q : List V → List Cell → Res (List Row × List Cell)} (h : H.impl_itemForm o) (hq : FnOk X0 65 q) : FnOk X0 65 (P.impl_itemForm o q) := by
  intro a c r hr
  unfold P.impl_itemForm at hr
  split at hr
  · obtain ⟨x, hx, rfl⟩ := Res.val_some hr
    exact h _ _ _ _ _ x hx
  · exact hq _ _ _ hr
noncomputable def M.impl_itemForm_C {R : Type} (n' : Int) (n'1 : Int) (n'2 : List UInt8) (n'3 : List UInt8) (n'4 : List Row) (k : Bool × Bool × Bool × Int × Int → Option R) : Option R :=
  bif n' == 40 then (k ((n'1 == 0, n'2 == [], n'3 == [], 1, 1))) else
   (bif n' == 41 then (k ((n'1 == 0, n'2 == [], n'3 == [], 1, 1))) else
    (bif n' == 42 then
     ((M.impl_within n'1 1 3).bind fun r399 =>
      (bif n'1 == 3 then (k ((r399, n'2 == [], n'3 == [], 2, 2))) else (k ((r399, n'2 == [], n'3 == [], 1, 1))))) else
     (bif n' == 43 then
      (bif n'1 == 1 then
       (bif n'1 == 3 then (k ((true, n'2 == [], n'3 == [], 3, 3))) else (k ((true, n'2 == [], n'3 == [], 2, 2)))) else
       (bif n'1 == 3 then (k ((n'1 == 3, n'2 == [], n'3 == [], 3, 3))) else (k ((n'1 == 3, n'2 == [], n'3 == [], 2, 2))))) else
      (bif n' == 44 then ((M.impl_NameOk n'2).bind fun r400 => (k ((n'1 == 0, r400, n'3 == [], 1, 7)))) else (k ((n'1 == 0, n'2 == [], n'3 == [], 0, 400)))))))
noncomputable def M.impl_itemForm (n' : Int) (n'1 : Int) (n'2 : List UInt8) (n'3 : List UInt8) (n'4 : List Row) : Option (Bool × Bool × Bool × Int × Int) := M.impl_itemForm_C n' n'1 n'2 n'3 n'4 some
theorem M.impl_itemForm_n {R : Type} (n' : Int) (n'1 : Int) (n'2 : List UInt8) (n'3 : List UInt8) (n'4 : List Row) (k : Bool × Bool × Bool × Int × Int → Option R) : M.impl_itemForm_C n' n'1 n'2 n'3 n'4 k = (M.impl_itemForm_C n' n'1 n'2 n'3 n'4 some).bind k := by
  simp only [M.impl_itemForm_C, bif_bind, bind_bind, some_bind, none_bind, sumE_bind, optE_bind, letE_bind]
noncomputable def K.impl_itemForm : KonC := (kcons 64 (P.impl_within M.impl_within pnil) (kcons 83 (P.impl_NameOk M.impl_NameOk pnil) knil))
noncomputable def L.impl_itemForm : LoopC := lnil
theorem E.impl_itemForm {R : Type} (n' : Int) (n'1 : Int) (n'2 : List UInt8) (n'3 : List UInt8) (n'4 : List Row) (k : List Row → List Cell → Option R) : bodyC X0 (K.impl_itemForm) (L.impl_itemForm) 65 [V.agg [V.d (D.int IntKind.i64 n'), V.d (D.int IntKind.i64 n'1), V.d (D.str n'2), V.d (D.str n'3), V.d (D.sl false 1 n'4)]] [] k = M.impl_itemForm_C n' n'1 n'2 n'3 n'4 (fun r => k [[D.bool r.fst, D.bool r.snd.fst, D.bool r.snd.snd.fst, D.int IntKind.i64 r.snd.snd.snd.fst, D.int IntKind.i64 r.snd.snd.snd.snd]] []) := by kernel_rfl
theorem LC.impl_itemForm : loops (codeOf X0.P 65) = [] := by kernel_rfl
theorem C.impl_itemForm : H.impl_itemForm (M.impl_itemForm) := by
  intro n' n'1 n'2 n'3 n'4 r h
  exact fn_sound (enc := fun r => ([[D.bool r.fst, D.bool r.snd.fst, D.bool r.snd.snd.fst, D.int IntKind.i64 r.snd.snd.snd.fst, D.int IntKind.i64 r.snd.snd.snd.snd]], [])) (K := K.impl_itemForm) (L := L.impl_itemForm) (by kernel_rfl) (kcons_ok (P.impl_within_ok C.impl_within pnil_ok) (kcons_ok (P.impl_NameOk_ok C.impl_NameOk pnil_ok) knil_ok)) (by rw [LC.impl_itemForm]; exact LOk.nil) (by rw [E.impl_itemForm, M.impl_itemForm_n] <;> rfl) h

/-! impl_FieldsOk -/
def H.impl_FieldsOk (o : Int → Int → List UInt8 → List UInt8 → List Row → Option (Bool)) : Prop := ∀ (n' : Int) (n'1 : Int) (n'2 : List UInt8) (n'3 : List UInt8) (n'4 : List Row) (r : Bool), o n' n'1 n'2 n'3 n'4 = some r → call X0 41 [V.agg [V.d (D.int IntKind.i64 n'), V.d (D.int IntKind.i64 n'1), V.d (D.str n'2), V.d (D.str n'3), V.d (D.sl false 1 n'4)]] [] = some ([[D.bool r]], [])
def P.impl_FieldsOk (o : Int → Int → List UInt8 → List UInt8 → List Row → Option (Bool)) (q : List V → List Cell → Res (List Row × List Cell)) (a : List V) (c : List Cell) : Res (List Row × List Cell) := match a, c with
  | [V.agg [V.d (D.int IntKind.i64 n'), V.d (D.int IntKind.i64 n'1), V.d (D.str n'2), V.d (D.str n'3), V.d (D.sl false 1 n'4)]], [] => ⟨Bool, o n' n'1 n'2 n'3 n'4, fun r => ([[D.bool r]], [])⟩
  | a, c => q a c
theorem P.impl_FieldsOk_ok {o : Int → Int → List UInt8 → List UInt8 → List Row → Option (Bool)} {q : List V → List Cell → Res (List Row × List Cell)} (h : H.impl_FieldsOk o) (hq : FnOk X0 41 q) : FnOk X0 41 (P.impl_FieldsOk o q) := by
  intro a c r hr
  unfold P.impl_FieldsOk at hr
  split at hr
  · obtain ⟨x, hx, rfl⟩ := Res.val_some hr
    exact h _ _ _ _ _ x hx
  · exact hq _ _ _ hr
noncomputable def M.impl_FieldsOk_C {R : Type} (n' : Int) (n'1 : Int) (n'2 : List UInt8) (n'3 : List UInt8) (n'4 : List Row) (k : Bool → Option R) : Option R :=
  (M.impl_IsExpr n').bind fun r292 =>
   (bif r292 then
    ((M.impl_exprForm n' n'1 n'2 n'3 n'4).bind fun r385 =>
     (bif r385.fst then
      (bif r385.snd.fst then
       (bif n'3 == [] then
        ((M.impl_within ((↑n'4.length : Int)) r385.snd.snd.snd.fst r385.snd.snd.snd.snd).bind fun r386 => (k r386)) else (k false)) else (k false)) else (k false))) else
    (bif n' == 16 then
     (bif n'1 == 0 then
      (bif n'2 == [] then
       (bif n'3 == [] then ((M.impl_within ((↑n'4.length : Int)) 0 0).bind fun r387 => (k r387)) else (k false)) else (k false)) else (k false)) else
     ((M.impl_IsStmt n').bind fun r389 =>
      (bif r389 then
       ((M.impl_stmtForm n' n'1 n'2 n'3 n'4).bind fun r396 =>
        (bif r396.fst then
         (bif r396.snd.fst then
          (bif r396.snd.snd.fst then
           ((M.impl_within ((↑n'4.length : Int)) r396.snd.snd.snd.fst r396.snd.snd.snd.snd).bind fun r397 => (k r397)) else (k false)) else (k false)) else (k false))) else
       ((M.impl_within n' 40 45).bind fun r398 =>
        (bif r398 then
         ((M.impl_itemForm n' n'1 n'2 n'3 n'4).bind fun r401 =>
          (bif r401.fst then
           (bif r401.snd.fst then
            (bif r401.snd.snd.fst then
             ((M.impl_within ((↑n'4.length : Int)) r401.snd.snd.snd.fst r401.snd.snd.snd.snd).bind fun r402 => (k r402)) else (k false)) else (k false)) else (k false))) else (k false)))))))
noncomputable def M.impl_FieldsOk (n' : Int) (n'1 : Int) (n'2 : List UInt8) (n'3 : List UInt8) (n'4 : List Row) : Option (Bool) := M.impl_FieldsOk_C n' n'1 n'2 n'3 n'4 some
theorem M.impl_FieldsOk_n {R : Type} (n' : Int) (n'1 : Int) (n'2 : List UInt8) (n'3 : List UInt8) (n'4 : List Row) (k : Bool → Option R) : M.impl_FieldsOk_C n' n'1 n'2 n'3 n'4 k = (M.impl_FieldsOk_C n' n'1 n'2 n'3 n'4 some).bind k := by
  simp only [M.impl_FieldsOk_C, bif_bind, bind_bind, some_bind, none_bind, sumE_bind, optE_bind, letE_bind]
noncomputable def K.impl_FieldsOk : KonC := (kcons 60 (P.impl_IsExpr M.impl_IsExpr pnil) (kcons 61 (P.impl_exprForm M.impl_exprForm pnil) (kcons 64 (P.impl_within M.impl_within pnil) (kcons 62 (P.impl_IsStmt M.impl_IsStmt pnil) (kcons 63 (P.impl_stmtForm M.impl_stmtForm pnil) (kcons 65 (P.impl_itemForm M.impl_itemForm pnil) knil))))))
noncomputable def L.impl_FieldsOk : LoopC := lnil
theorem E.impl_FieldsOk {R : Type} (n' : Int) (n'1 : Int) (n'2 : List UInt8) (n'3 : List UInt8) (n'4 : List Row) (k : List Row → List Cell → Option R) : bodyC X0 (K.impl_FieldsOk) (L.impl_FieldsOk) 41 [V.agg [V.d (D.int IntKind.i64 n'), V.d (D.int IntKind.i64 n'1), V.d (D.str n'2), V.d (D.str n'3), V.d (D.sl false 1 n'4)]] [] k = M.impl_FieldsOk_C n' n'1 n'2 n'3 n'4 (fun r => k [[D.bool r]] []) := by kernel_rfl
theorem LC.impl_FieldsOk : loops (codeOf X0.P 41) = [] := by kernel_rfl
theorem C.impl_FieldsOk : H.impl_FieldsOk (M.impl_FieldsOk) := by
  intro n' n'1 n'2 n'3 n'4 r h
  exact fn_sound (enc := fun r => ([[D.bool r]], [])) (K := K.impl_FieldsOk) (L := L.impl_FieldsOk) (by kernel_rfl) (kcons_ok (P.impl_IsExpr_ok C.impl_IsExpr pnil_ok) (kcons_ok (P.impl_exprForm_ok C.impl_exprForm pnil_ok) (kcons_ok (P.impl_within_ok C.impl_within pnil_ok) (kcons_ok (P.impl_IsStmt_ok C.impl_IsStmt pnil_ok) (kcons_ok (P.impl_stmtForm_ok C.impl_stmtForm pnil_ok) (kcons_ok (P.impl_itemForm_ok C.impl_itemForm pnil_ok) knil_ok)))))) (by rw [LC.impl_FieldsOk]; exact LOk.nil) (by rw [E.impl_FieldsOk, M.impl_FieldsOk_n] <;> rfl) h

/-! impl_IsLvalue -/
def H.impl_IsLvalue (o : Int → Option (Bool)) : Prop := ∀ (kind : Int) (r : Bool), o kind = some r → call X0 66 [V.d (D.int IntKind.i64 kind)] [] = some ([[D.bool r]], [])
def P.impl_IsLvalue (o : Int → Option (Bool)) (q : List V → List Cell → Res (List Row × List Cell)) (a : List V) (c : List Cell) : Res (List Row × List Cell) := match a, c with
  | [V.d (D.int IntKind.i64 kind)], [] => ⟨Bool, o kind, fun r => ([[D.bool r]], [])⟩
  | a, c => q a c
theorem P.impl_IsLvalue_ok {o : Int → Option (Bool)} {q : List V → List Cell → Res (List Row × List Cell)} (h : H.impl_IsLvalue o) (hq : FnOk X0 66 q) : FnOk X0 66 (P.impl_IsLvalue o q) := by
  intro a c r hr
  unfold P.impl_IsLvalue at hr
  split at hr
  · obtain ⟨x, hx, rfl⟩ := Res.val_some hr
    exact h _ x hx
  · exact hq _ _ _ hr
noncomputable def M.impl_IsLvalue_C {R : Type} (kind : Int) (k : Bool → Option R) : Option R :=
  bif kind == 1 then (k true) else (bif kind == 5 then (k true) else (k (kind == 6)))
noncomputable def M.impl_IsLvalue (kind : Int) : Option (Bool) := M.impl_IsLvalue_C kind some
theorem M.impl_IsLvalue_n {R : Type} (kind : Int) (k : Bool → Option R) : M.impl_IsLvalue_C kind k = (M.impl_IsLvalue_C kind some).bind k := by
  simp only [M.impl_IsLvalue_C, bif_bind, bind_bind, some_bind, none_bind, sumE_bind, optE_bind, letE_bind]
noncomputable def K.impl_IsLvalue : KonC := knil
noncomputable def L.impl_IsLvalue : LoopC := lnil
theorem E.impl_IsLvalue {R : Type} (kind : Int) (k : List Row → List Cell → Option R) : bodyC X0 (K.impl_IsLvalue) (L.impl_IsLvalue) 66 [V.d (D.int IntKind.i64 kind)] [] k = M.impl_IsLvalue_C kind (fun r => k [[D.bool r]] []) := by kernel_rfl
theorem LC.impl_IsLvalue : loops (codeOf X0.P 66) = [] := by kernel_rfl
theorem C.impl_IsLvalue : H.impl_IsLvalue (M.impl_IsLvalue) := by
  intro kind r h
  exact fn_sound (enc := fun r => ([[D.bool r]], [])) (K := K.impl_IsLvalue) (L := L.impl_IsLvalue) (by kernel_rfl) knil_ok (by rw [LC.impl_IsLvalue]; exact LOk.nil) (by rw [E.impl_IsLvalue, M.impl_IsLvalue_n] <;> rfl) h

/-! impl_isItem -/
def H.impl_isItem (o : Int → Option (Bool)) : Prop := ∀ (kind : Int) (r : Bool), o kind = some r → call X0 67 [V.d (D.int IntKind.i64 kind)] [] = some ([[D.bool r]], [])
def P.impl_isItem (o : Int → Option (Bool)) (q : List V → List Cell → Res (List Row × List Cell)) (a : List V) (c : List Cell) : Res (List Row × List Cell) := match a, c with
  | [V.d (D.int IntKind.i64 kind)], [] => ⟨Bool, o kind, fun r => ([[D.bool r]], [])⟩
  | a, c => q a c
theorem P.impl_isItem_ok {o : Int → Option (Bool)} {q : List V → List Cell → Res (List Row × List Cell)} (h : H.impl_isItem o) (hq : FnOk X0 67 q) : FnOk X0 67 (P.impl_isItem o q) := by
  intro a c r hr
  unfold P.impl_isItem at hr
  split at hr
  · obtain ⟨x, hx, rfl⟩ := Res.val_some hr
    exact h _ x hx
  · exact hq _ _ _ hr
noncomputable def M.impl_isItem_C {R : Type} (kind : Int) (k : Bool → Option R) : Option R :=
  (M.impl_within kind 40 44).bind fun r423 => (k r423)
noncomputable def M.impl_isItem (kind : Int) : Option (Bool) := M.impl_isItem_C kind some
theorem M.impl_isItem_n {R : Type} (kind : Int) (k : Bool → Option R) : M.impl_isItem_C kind k = (M.impl_isItem_C kind some).bind k := by
  simp only [M.impl_isItem_C, bif_bind, bind_bind, some_bind, none_bind, sumE_bind, optE_bind, letE_bind]
noncomputable def K.impl_isItem : KonC := (kcons 64 (P.impl_within M.impl_within pnil) knil)
noncomputable def L.impl_isItem : LoopC := lnil
theorem E.impl_isItem {R : Type} (kind : Int) (k : List Row → List Cell → Option R) : bodyC X0 (K.impl_isItem) (L.impl_isItem) 67 [V.d (D.int IntKind.i64 kind)] [] k = M.impl_isItem_C kind (fun r => k [[D.bool r]] []) := by kernel_rfl
theorem LC.impl_isItem : loops (codeOf X0.P 67) = [] := by kernel_rfl
theorem C.impl_isItem : H.impl_isItem (M.impl_isItem) := by
  intro kind r h
  exact fn_sound (enc := fun r => ([[D.bool r]], [])) (K := K.impl_isItem) (L := L.impl_isItem) (by kernel_rfl) (kcons_ok (P.impl_within_ok C.impl_within pnil_ok) knil_ok) (by rw [LC.impl_isItem]; exact LOk.nil) (by rw [E.impl_isItem, M.impl_isItem_n] <;> rfl) h

/-! impl_kidOk -/
def H.impl_kidOk (o : Int → Int → List UInt8 → List UInt8 → List Row → Int → Int → Option (Bool)) : Prop := ∀ (n' : Int) (n'1 : Int) (n'2 : List UInt8) (n'3 : List UInt8) (n'4 : List Row) (k' : Int) (kid : Int) (r : Bool), o n' n'1 n'2 n'3 n'4 k' kid = some r → call X0 42 [V.agg [V.d (D.int IntKind.i64 n'), V.d (D.int IntKind.i64 n'1), V.d (D.str n'2), V.d (D.str n'3), V.d (D.sl false 1 n'4)], V.d (D.int IntKind.i64 k'), V.d (D.int IntKind.i64 kid)] [] = some ([[D.bool r]], [])
def P.impl_kidOk (o : Int → Int → List UInt8 → List UInt8 → List Row → Int → Int → Option (Bool)) (q : List V → List Cell → Res (List Row × List Cell)) (a : List V) (c : List Cell) : Res (List Row × List Cell) := match a, c with
  | [V.agg [V.d (D.int IntKind.i64 n'), V.d (D.int IntKind.i64 n'1), V.d (D.str n'2), V.d (D.str n'3), V.d (D.sl false 1 n'4)], V.d (D.int IntKind.i64 k'), V.d (D.int IntKind.i64 kid)], [] => ⟨Bool, o n' n'1 n'2 n'3 n'4 k' kid, fun r => ([[D.bool r]], [])⟩
  | a, c => q a c
theorem P.impl_kidOk_ok {o : Int → Int → List UInt8 → List UInt8 → List Row → Int → Int → Option (Bool)} {q : List V → List Cell → Res (List Row × List Cell)} (h : H.impl_kidOk o) (hq : FnOk X0 42 q) : FnOk X0 42 (P.impl_kidOk o q) := by
  intro a c r hr
  unfold P.impl_kidOk at hr
  split at hr
  · obtain ⟨x, hx, rfl⟩ := Res.val_some hr
    exact h _ _ _ _ _ _ _ x hx
  · exact hq _ _ _ hr
noncomputable def M.impl_kidOk_C {R : Type} (n' : Int) (n'1 : Int) (n'2 : List UInt8) (n'3 : List UInt8) (n'4 : List Row) (k' : Int) (kid : Int) (k : Bool → Option R) : Option R :=
  bif n' == 9 then ((M.impl_IsLvalue kid).bind fun r408 => (k r408)) else
   (bif n' == 10 then ((M.impl_IsLvalue kid).bind fun r409 => (k r409)) else
    (bif n' == 15 then
     (bif k' == 0 then
      ((M.impl_IsLvalue kid).bind fun r410 =>
       (bif r410 then (k true) else (bif decide (k' > 0) then ((M.impl_IsExpr kid).bind fun r411 => (k r411)) else (k false)))) else (bif decide (k' > 0) then ((M.impl_IsExpr kid).bind fun r412 => (k r412)) else (k false))) else
     (bif n' == 28 then
      (bif decide (k' > 0) then (k (kid == 33)) else ((M.impl_IsExpr kid).bind fun r413 => (k r413))) else
      (bif n' == 29 then
       (bif decide (k' > 0) then (k (kid == 33)) else ((M.impl_IsExpr kid).bind fun r414 => (k r414))) else
       (bif n' == 31 then
        (bif decide (k' < 3) then
         (bif kid == 16 then (k true) else
          (bif k' == IntKind.i64.wrap ((↑n'4.length : Int) - 1) then (k (kid == 33)) else ((M.impl_IsExpr kid).bind fun r415 => (k r415)))) else
         (bif k' == IntKind.i64.wrap ((↑n'4.length : Int) - 1) then (k (kid == 33)) else ((M.impl_IsExpr kid).bind fun r416 => (k r416)))) else
        (bif n' == 30 then (bif k' == 0 then (k (kid == 33)) else ((M.impl_IsExpr kid).bind fun r417 => (k r417))) else
         (bif n' == 32 then (k (kid == 33)) else
          (bif n' == 40 then (k (kid == 33)) else
           (bif n' == 41 then (k (kid == 33)) else
            (bif n' == 33 then ((M.impl_IsStmt kid).bind fun r418 => (k r418)) else
             (bif n' == 42 then
              (bif k' == IntKind.i64.wrap ((↑n'4.length : Int) - 1) then
               (bif decide (n'1 ≥ 2) then (k (kid == 33)) else ((M.impl_IsExpr kid).bind fun r419 => (k r419))) else ((M.impl_IsExpr kid).bind fun r420 => (k r420))) else
              (bif n' == 43 then
               (bif k' == IntKind.i64.wrap ((↑n'4.length : Int) - 1) then (bif n'1 == 3 then (k (kid == 33)) else ((M.impl_IsExpr kid).bind fun r421 => (k r421))) else ((M.impl_IsExpr kid).bind fun r422 => (k r422))) else
               (bif n' == 44 then
                (bif !k' == IntKind.i64.wrap ((↑n'4.length : Int) - 1) then (k (kid == 1)) else (k (kid == 33))) else
                (bif n' == 45 then ((M.impl_isItem kid).bind fun r424 => (bif r424 then (k true) else (k (kid == 34)))) else ((M.impl_IsExpr kid).bind fun r425 => (k r425))))))))))))))))
noncomputable def M.impl_kidOk (n' : Int) (n'1 : Int) (n'2 : List UInt8) (n'3 : List UInt8) (n'4 : List Row) (k' : Int) (kid : Int) : Option (Bool) := M.impl_kidOk_C n' n'1 n'2 n'3 n'4 k' kid some
theorem M.impl_kidOk_n {R : Type} (n' : Int) (n'1 : Int) (n'2 : List UInt8) (n'3 : List UInt8) (n'4 : List Row) (k' : Int) (kid : Int) (k : Bool → Option R) : M.impl_kidOk_C n' n'1 n'2 n'3 n'4 k' kid k = (M.impl_kidOk_C n' n'1 n'2 n'3 n'4 k' kid some).bind k := by
  simp only [M.impl_kidOk_C, bif_bind, bind_bind, some_bind, none_bind, sumE_bind, optE_bind, letE_bind]
noncomputable def K.impl_kidOk : KonC := (kcons 66 (P.impl_IsLvalue M.impl_IsLvalue pnil) (kcons 60 (P.impl_IsExpr M.impl_IsExpr pnil) (kcons 62 (P.impl_IsStmt M.impl_IsStmt pnil) (kcons 67 (P.impl_isItem M.impl_isItem pnil) knil))))
noncomputable def L.impl_kidOk : LoopC := lnil
theorem E.impl_kidOk {R : Type} (n' : Int) (n'1 : Int) (n'2 : List UInt8) (n'3 : List UInt8) (n'4 : List Row) (k' : Int) (kid : Int) (k : List Row → List Cell → Option R) : bodyC X0 (K.impl_kidOk) (L.impl_kidOk) 42 [V.agg [V.d (D.int IntKind.i64 n'), V.d (D.int IntKind.i64 n'1), V.d (D.str n'2), V.d (D.str n'3), V.d (D.sl false 1 n'4)], V.d (D.int IntKind.i64 k'), V.d (D.int IntKind.i64 kid)] [] k = M.impl_kidOk_C n' n'1 n'2 n'3 n'4 k' kid (fun r => k [[D.bool r]] []) := by kernel_rfl
theorem LC.impl_kidOk : loops (codeOf X0.P 42) = [] := by kernel_rfl
theorem C.impl_kidOk : H.impl_kidOk (M.impl_kidOk) := by
  intro n' n'1 n'2 n'3 n'4 k' kid r h
  exact fn_sound (enc := fun r => ([[D.bool r]], [])) (K := K.impl_kidOk) (L := L.impl_kidOk) (by kernel_rfl) (kcons_ok (P.impl_IsLvalue_ok C.impl_IsLvalue pnil_ok) (kcons_ok (P.impl_IsExpr_ok C.impl_IsExpr pnil_ok) (kcons_ok (P.impl_IsStmt_ok C.impl_IsStmt pnil_ok) (kcons_ok (P.impl_isItem_ok C.impl_isItem pnil_ok) knil_ok)))) (by rw [LC.impl_kidOk]; exact LOk.nil) (by rw [E.impl_kidOk, M.impl_kidOk_n] <;> rfl) h

/-! impl_treeAt -/
def H.impl_treeAt (o : List Row → Int → Option (Int × Int × List UInt8 × List UInt8 × List Row)) : Prop := ∀ (l : List Row) (i : Int) (r : Int × Int × List UInt8 × List UInt8 × List Row), o l i = some r → call X0 68 [V.d (D.sl false 5 l), V.d (D.int IntKind.i64 i)] [] = some ([[D.int IntKind.i64 r.fst, D.int IntKind.i64 r.snd.fst, D.str r.snd.snd.fst, D.str r.snd.snd.snd.fst, D.sl true 5 r.snd.snd.snd.snd]], [])
def P.impl_treeAt (o : List Row → Int → Option (Int × Int × List UInt8 × List UInt8 × List Row)) (q : List V → List Cell → Res (List Row × List Cell)) (a : List V) (c : List Cell) : Res (List Row × List Cell) := match a, c with
  | [V.d (D.sl false 5 l), V.d (D.int IntKind.i64 i)], [] => ⟨Int × Int × List UInt8 × List UInt8 × List Row, o l i, fun r => ([[D.int IntKind.i64 r.fst, D.int IntKind.i64 r.snd.fst, D.str r.snd.snd.fst, D.str r.snd.snd.snd.fst, D.sl true 5 r.snd.snd.snd.snd]], [])⟩
  | a, c => q a c
theorem P.impl_treeAt_ok {o : List Row → Int → Option (Int × Int × List UInt8 × List UInt8 × List Row)} {q : List V → List Cell → Res (List Row × List Cell)} (h : H.impl_treeAt o) (hq : FnOk X0 68 q) : FnOk X0 68 (P.impl_treeAt o q) := by
  intro a c r hr
  unfold P.impl_treeAt at hr
  split at hr
  · obtain ⟨x, hx, rfl⟩ := Res.val_some hr
    exact h _ _ x hx
  · exact hq _ _ _ hr
noncomputable def M.impl_treeAt_l4_C {R : Type} (rec_impl_treeAt : List Row → Int → Option (Int × Int × List UInt8 × List UInt8 × List Row)) (s : (List Row × List Row × Int × Int × Int × Int × List UInt8 × List UInt8 × Int × Int × List UInt8 × List UInt8) ⊕ (List Row × List Row × Int × Int × Int × Int × List UInt8 × List UInt8 × Int × Int × List UInt8 × List UInt8 × List Row)) (kn : (List Row × List Row × Int × Int × Int × Int × List UInt8 × List UInt8 × Int × Int × List UInt8 × List UInt8) ⊕ (List Row × List Row × Int × Int × Int × Int × List UInt8 × List UInt8 × Int × Int × List UInt8 × List UInt8 × List Row) → Option R) (ke : (List Row × List Row × Int × Int × Int × Int × List UInt8 × List UInt8 × Int × Int × List UInt8 × List UInt8) ⊕ (List Row × List Row × Int × Int × Int × Int × List UInt8 × List UInt8 × Int × Int × List UInt8 × List UInt8 × List Row) → Option R) : Option R := match s with
  | .inl ((l, v23, v24, v25, x', x'1, x'2, x'3, x'4, x'5, x'6, x'7)) =>
    bif decide (v25 < v24) then
     ((idx v23 v25).bind fun row437 =>
      ((cInt IntKind.i64 row437 0).bind fun n438 =>
       ((rec_impl_treeAt l n438).bind fun r439 =>
        (kn (.inr ((l, v23, v24, IntKind.i64.wrap (v25 + 1), x', x'1, x'2, x'3, x'4, x'5, x'6, x'7, [[D.int IntKind.i64 r439.fst, D.int IntKind.i64 r439.snd.fst, D.str r439.snd.snd.fst, D.str r439.snd.snd.snd.fst, D.sl true 5 r439.snd.snd.snd.snd]]))))))) else (ke (.inl ((l, v23, v24, v25, x', x'1, x'2, x'3, x'4, x'5, x'6, x'7))))
  | .inr ((l, v23, v24, v25, x', x'1, x'2, x'3, x'4, x'5, x'6, x'7, x'8)) =>
    bif decide (v25 < v24) then
     ((idx v23 v25).bind fun row440 =>
      ((cInt IntKind.i64 row440 0).bind fun n441 =>
       ((rec_impl_treeAt l n441).bind fun r442 =>
        (bif ((x'8.length + [[D.int IntKind.i64 r442.fst, D.int IntKind.i64 r442.snd.fst, D.str r442.snd.snd.fst, D.str r442.snd.snd.snd.fst, D.sl true 5 r442.snd.snd.snd.snd]].length) * 72).ble 140737488355328 then
         (bif (x'8.length + [[D.int IntKind.i64 r442.fst, D.int IntKind.i64 r442.snd.fst, D.str r442.snd.snd.fst, D.str r442.snd.snd.snd.fst, D.sl true 5 r442.snd.snd.snd.snd]].length).ble 140737488355328 then
          (kn (.inr ((l, v23, v24, IntKind.i64.wrap (v25 + 1), x', x'1, x'2, x'3, x'4, x'5, x'6, x'7, x'8 ++ [[D.int IntKind.i64 r442.fst, D.int IntKind.i64 r442.snd.fst, D.str r442.snd.snd.fst, D.str r442.snd.snd.snd.fst, D.sl true 5 r442.snd.snd.snd.snd]])))) else none) else none)))) else (ke (.inr ((l, v23, v24, v25, x', x'1, x'2, x'3, x'4, x'5, x'6, x'7, x'8))))
noncomputable def M.impl_treeAt_l4_b (rec_impl_treeAt : List Row → Int → Option (Int × Int × List UInt8 × List UInt8 × List Row)) (s : (List Row × List Row × Int × Int × Int × Int × List UInt8 × List UInt8 × Int × Int × List UInt8 × List UInt8) ⊕ (List Row × List Row × Int × Int × Int × Int × List UInt8 × List UInt8 × Int × Int × List UInt8 × List UInt8 × List Row)) : Option (((List Row × List Row × Int × Int × Int × Int × List UInt8 × List UInt8 × Int × Int × List UInt8 × List UInt8) ⊕ (List Row × List Row × Int × Int × Int × Int × List UInt8 × List UInt8 × Int × Int × List UInt8 × List UInt8 × List Row)) ⊕ ((List Row × List Row × Int × Int × Int × Int × List UInt8 × List UInt8 × Int × Int × List UInt8 × List UInt8) ⊕ (List Row × List Row × Int × Int × Int × Int × List UInt8 × List UInt8 × Int × Int × List UInt8 × List UInt8 × List Row))) := M.impl_treeAt_l4_C rec_impl_treeAt s (fun s => some (.inl s)) (fun t => some (.inr t))
noncomputable def M.impl_treeAt_l4 (rec_impl_treeAt : List Row → Int → Option (Int × Int × List UInt8 × List UInt8 × List Row)) (s : (List Row × List Row × Int × Int × Int × Int × List UInt8 × List UInt8 × Int × Int × List UInt8 × List UInt8) ⊕ (List Row × List Row × Int × Int × Int × Int × List UInt8 × List UInt8 × Int × Int × List UInt8 × List UInt8 × List Row)) : Option ((List Row × List Row × Int × Int × Int × Int × List UInt8 × List UInt8 × Int × Int × List UInt8 × List UInt8) ⊕ (List Row × List Row × Int × Int × Int × Int × List UInt8 × List UInt8 × Int × Int × List UInt8 × List UInt8 × List Row)) := loopM (M.impl_treeAt_l4_b rec_impl_treeAt) s
theorem M.impl_treeAt_l4_n {R : Type} (rec_impl_treeAt : List Row → Int → Option (Int × Int × List UInt8 × List UInt8 × List Row)) (s : (List Row × List Row × Int × Int × Int × Int × List UInt8 × List UInt8 × Int × Int × List UInt8 × List UInt8) ⊕ (List Row × List Row × Int × Int × Int × Int × List UInt8 × List UInt8 × Int × Int × List UInt8 × List UInt8 × List Row)) (kn : (List Row × List Row × Int × Int × Int × Int × List UInt8 × List UInt8 × Int × Int × List UInt8 × List UInt8) ⊕ (List Row × List Row × Int × Int × Int × Int × List UInt8 × List UInt8 × Int × Int × List UInt8 × List UInt8 × List Row) → Option R) (ke : (List Row × List Row × Int × Int × Int × Int × List UInt8 × List UInt8 × Int × Int × List UInt8 × List UInt8) ⊕ (List Row × List Row × Int × Int × Int × Int × List UInt8 × List UInt8 × Int × Int × List UInt8 × List UInt8 × List Row) → Option R) : M.impl_treeAt_l4_C rec_impl_treeAt s kn ke = (M.impl_treeAt_l4_b rec_impl_treeAt s).bind fun r => match r with | .inl s => kn s | .inr t => ke t := by
  rcases s with ⟨l, v23, v24, v25, x', x'1, x'2, x'3, x'4, x'5, x'6, x'7⟩ | ⟨l, v23, v24, v25, x', x'1, x'2, x'3, x'4, x'5, x'6, x'7, x'8⟩
  all_goals
    simp only [M.impl_treeAt_l4_b, M.impl_treeAt_l4_C, bif_bind, bind_bind, some_bind, none_bind, sumE_bind, optE_bind, letE_bind]
def A.impl_treeAt_l4 : Alt (Ex × St) := .sum (.leaf (List Row × List Row × Int × Int × Int × Int × List UInt8 × List UInt8 × Int × Int × List UInt8 × List UInt8) (fun t => (Ex.exit 0, { tm := [(0, V.d (D.sl false 5 t.fst)), (4, V.ptr 300000 0), (6, V.ptr 300001 0), (23, V.d (D.sl false 1 t.snd.fst)), (24, V.d (D.int IntKind.i64 t.snd.snd.fst)), (25, V.d (D.int IntKind.i64 t.snd.snd.snd.fst)), (26, V.d (D.bool false))], mem := [(300000, Cell.box 64 [V.d (D.int IntKind.i64 t.snd.snd.snd.snd.fst), V.d (D.int IntKind.i64 t.snd.snd.snd.snd.snd.fst), V.d (D.str t.snd.snd.snd.snd.snd.snd.fst), V.d (D.str t.snd.snd.snd.snd.snd.snd.snd.fst), V.nil 5]), (300001, Cell.box 64 [V.d (D.int IntKind.i64 t.snd.snd.snd.snd.snd.snd.snd.snd.fst), V.d (D.int IntKind.i64 t.snd.snd.snd.snd.snd.snd.snd.snd.snd.fst), V.d (D.str t.snd.snd.snd.snd.snd.snd.snd.snd.snd.snd.fst), V.d (D.str t.snd.snd.snd.snd.snd.snd.snd.snd.snd.snd.snd), V.nil 5])] }))) (.leaf (List Row × List Row × Int × Int × Int × Int × List UInt8 × List UInt8 × Int × Int × List UInt8 × List UInt8 × List Row) (fun t => (Ex.exit 0, { tm := [(0, V.d (D.sl false 5 t.fst)), (4, V.ptr 300000 0), (6, V.ptr 300001 0), (23, V.d (D.sl false 1 t.snd.fst)), (24, V.d (D.int IntKind.i64 t.snd.snd.fst)), (25, V.d (D.int IntKind.i64 t.snd.snd.snd.fst)), (26, V.d (D.bool false))], mem := [(300000, Cell.box 64 [V.d (D.int IntKind.i64 t.snd.snd.snd.snd.fst), V.d (D.int IntKind.i64 t.snd.snd.snd.snd.snd.fst), V.d (D.str t.snd.snd.snd.snd.snd.snd.fst), V.d (D.str t.snd.snd.snd.snd.snd.snd.snd.fst), V.nil 5]), (300001, Cell.box 64 [V.d (D.int IntKind.i64 t.snd.snd.snd.snd.snd.snd.snd.snd.fst), V.d (D.int IntKind.i64 t.snd.snd.snd.snd.snd.snd.snd.snd.snd.fst), V.d (D.str t.snd.snd.snd.snd.snd.snd.snd.snd.snd.snd.fst), V.d (D.str t.snd.snd.snd.snd.snd.snd.snd.snd.snd.snd.snd.fst), V.own 300002 0]), (300002, Cell.arr false false 0 5 t.snd.snd.snd.snd.snd.snd.snd.snd.snd.snd.snd.snd)] })))
def T.impl_treeAt_l4 (s : (List Row × List Row × Int × Int × Int × Int × List UInt8 × List UInt8 × Int × Int × List UInt8 × List UInt8) ⊕ (List Row × List Row × Int × Int × Int × Int × List UInt8 × List UInt8 × Int × Int × List UInt8 × List UInt8 × List Row)) : St := match s with
  | .inl ((l, v23, v24, v25, x', x'1, x'2, x'3, x'4, x'5, x'6, x'7)) => { tm := [(0, V.d (D.sl false 5 l)), (4, V.ptr 300000 0), (6, V.ptr 300001 0), (23, V.d (D.sl false 1 v23)), (24, V.d (D.int IntKind.i64 v24)), (25, V.d (D.int IntKind.i64 v25))], mem := [(300000, Cell.box 64 [V.d (D.int IntKind.i64 x'), V.d (D.int IntKind.i64 x'1), V.d (D.str x'2), V.d (D.str x'3), V.nil 5]), (300001, Cell.box 64 [V.d (D.int IntKind.i64 x'4), V.d (D.int IntKind.i64 x'5), V.d (D.str x'6), V.d (D.str x'7), V.nil 5])] }
  | .inr ((l, v23, v24, v25, x', x'1, x'2, x'3, x'4, x'5, x'6, x'7, x'8)) => { tm := [(0, V.d (D.sl false 5 l)), (4, V.ptr 300000 0), (6, V.ptr 300001 0), (23, V.d (D.sl false 1 v23)), (24, V.d (D.int IntKind.i64 v24)), (25, V.d (D.int IntKind.i64 v25))], mem := [(300000, Cell.box 64 [V.d (D.int IntKind.i64 x'), V.d (D.int IntKind.i64 x'1), V.d (D.str x'2), V.d (D.str x'3), V.nil 5]), (300001, Cell.box 64 [V.d (D.int IntKind.i64 x'4), V.d (D.int IntKind.i64 x'5), V.d (D.str x'6), V.d (D.str x'7), V.own 300002 0]), (300002, Cell.arr false false 0 5 x'8)] }
noncomputable def K.impl_treeAt_l4 (rec_impl_treeAt : List Row → Int → Option (Int × Int × List UInt8 × List UInt8 × List Row)) : KonC := (kcons 68 (P.impl_treeAt rec_impl_treeAt pnil) knil)
noncomputable def L.impl_treeAt_l4 (rec_impl_treeAt : List Row → Int → Option (Int × Int × List UInt8 × List UInt8 × List Row)) : LoopC := lnil
theorem E.impl_treeAt_l4 {R : Type} (rec_impl_treeAt : List Row → Int → Option (Int × Int × List UInt8 × List UInt8 × List Row)) (s : (List Row × List Row × Int × Int × Int × Int × List UInt8 × List UInt8 × Int × Int × List UInt8 × List UInt8) ⊕ (List Row × List Row × Int × Int × Int × Int × List UInt8 × List UInt8 × Int × Int × List UInt8 × List UInt8 × List Row)) (k : Ex → St → Option R) : denC X0 (K.impl_treeAt_l4 rec_impl_treeAt) (L.impl_treeAt_l4 rec_impl_treeAt) 68 (loopCode X0.P 68 4) (T.impl_treeAt_l4 s) k = M.impl_treeAt_l4_C rec_impl_treeAt s (fun s => k .normal (T.impl_treeAt_l4 s)) (fun t => (A.impl_treeAt_l4).go t fun r => k r.1 r.2) := by
  rcases s with ⟨l, v23, v24, v25, x', x'1, x'2, x'3, x'4, x'5, x'6, x'7⟩ | ⟨l, v23, v24, v25, x', x'1, x'2, x'3, x'4, x'5, x'6, x'7, x'8⟩
  all_goals kernel_rfl
theorem LC.impl_treeAt_l4 : loops (loopCode X0.P 68 4) = [] := by kernel_rfl
noncomputable def PL.impl_treeAt_l4 (rec_impl_treeAt : List Row → Int → Option (Int × Int × List UInt8 × List UInt8 × List Row)) (S : St) : ResA (Ex × St) := match S with
  | { tm := [(0, V.d (D.sl false 5 l)), (4, V.ptr 300000 0), (6, V.ptr 300001 0), (23, V.d (D.sl false 1 v23)), (24, V.d (D.int IntKind.i64 v24)), (25, V.d (D.int IntKind.i64 v25))], mem := [(300000, Cell.box 64 [V.d (D.int IntKind.i64 x'), V.d (D.int IntKind.i64 x'1), V.d (D.str x'2), V.d (D.str x'3), V.nil 5]), (300001, Cell.box 64 [V.d (D.int IntKind.i64 x'4), V.d (D.int IntKind.i64 x'5), V.d (D.str x'6), V.d (D.str x'7), V.nil 5])] } => ⟨A.impl_treeAt_l4, M.impl_treeAt_l4 rec_impl_treeAt (.inl ((l, v23, v24, v25, x', x'1, x'2, x'3, x'4, x'5, x'6, x'7)))⟩
  | { tm := [(0, V.d (D.sl false 5 l)), (4, V.ptr 300000 0), (6, V.ptr 300001 0), (23, V.d (D.sl false 1 v23)), (24, V.d (D.int IntKind.i64 v24)), (25, V.d (D.int IntKind.i64 v25))], mem := [(300000, Cell.box 64 [V.d (D.int IntKind.i64 x'), V.d (D.int IntKind.i64 x'1), V.d (D.str x'2), V.d (D.str x'3), V.nil 5]), (300001, Cell.box 64 [V.d (D.int IntKind.i64 x'4), V.d (D.int IntKind.i64 x'5), V.d (D.str x'6), V.d (D.str x'7), V.own 300002 0]), (300002, Cell.arr false false 0 5 x'8)] } => ⟨A.impl_treeAt_l4, M.impl_treeAt_l4 rec_impl_treeAt (.inr ((l, v23, v24, v25, x', x'1, x'2, x'3, x'4, x'5, x'6, x'7, x'8)))⟩
  | _ => .none
theorem C.impl_treeAt_l4 {rec_impl_treeAt : List Row → Int → Option (Int × Int × List UInt8 × List UInt8 × List Row)} (h_impl_treeAt : H.impl_treeAt rec_impl_treeAt) : LpOk X0 68 4 (loopCode X0.P 68 4) (PL.impl_treeAt_l4 rec_impl_treeAt) := by
  refine ⟨by kernel_rfl, fun S r hr => ?_⟩
  unfold PL.impl_treeAt_l4 at hr
  split at hr
  · obtain ⟨x, hx, rfl⟩ := ResA.val_some hr
    exact lp_sound (K := K.impl_treeAt_l4 rec_impl_treeAt) (L := L.impl_treeAt_l4 rec_impl_treeAt) (b := M.impl_treeAt_l4_b rec_impl_treeAt) (tm := T.impl_treeAt_l4) (tx := (A.impl_treeAt_l4).enc) (kcons_ok (P.impl_treeAt_ok h_impl_treeAt pnil_ok) knil_ok) (by rw [LC.impl_treeAt_l4]; exact LOk.nil) (fun s => by rw [E.impl_treeAt_l4, M.impl_treeAt_l4_n]; congr 1; funext r; cases r <;> first | rfl | exact Alt.go_eq _ _ _) (by intro t; rcases t with t | t <;> first | (intro h; cases h) | (intro h; cases h)) hx (s := .inl ((_, _, _, _, _, _, _, _, _, _, _, _)))
  · obtain ⟨x, hx, rfl⟩ := ResA.val_some hr
    exact lp_sound (K := K.impl_treeAt_l4 rec_impl_treeAt) (L := L.impl_treeAt_l4 rec_impl_treeAt) (b := M.impl_treeAt_l4_b rec_impl_treeAt) (tm := T.impl_treeAt_l4) (tx := (A.impl_treeAt_l4).enc) (kcons_ok (P.impl_treeAt_ok h_impl_treeAt pnil_ok) knil_ok) (by rw [LC.impl_treeAt_l4]; exact LOk.nil) (fun s => by rw [E.impl_treeAt_l4, M.impl_treeAt_l4_n]; congr 1; funext r; cases r <;> first | rfl | exact Alt.go_eq _ _ _) (by intro t; rcases t with t | t <;> first | (intro h; cases h) | (intro h; cases h)) hx (s := .inr ((_, _, _, _, _, _, _, _, _, _, _, _, _)))
  · cases hr
noncomputable def M.impl_treeAt_C {R : Type} (rec_impl_treeAt : List Row → Int → Option (Int × Int × List UInt8 × List UInt8 × List Row)) (l : List Row) (i : Int) (k : Int × Int × List UInt8 × List UInt8 × List Row → Option R) : Option R :=
  (idx l i).bind fun row431 =>
   ((cInt IntKind.i64 row431 0).bind fun n432 =>
    ((cInt IntKind.i64 row431 1).bind fun n433 =>
     ((cStr row431 2).bind fun s434 =>
      ((cStr row431 3).bind fun s435 =>
       ((cSl 1 row431 4).bind fun rows436 =>
        ((M.impl_treeAt_l4 rec_impl_treeAt (.inl ((l, rows436, (↑rows436.length : Int), 0, 0, 0, [], [], n432, n433, s434, s435)))).bind fun u445 =>
        sumE u445 (fun t443 =>
         (k ((t443.snd.snd.snd.snd.snd.snd.snd.snd.fst, t443.snd.snd.snd.snd.snd.snd.snd.snd.snd.fst, t443.snd.snd.snd.snd.snd.snd.snd.snd.snd.snd.fst, t443.snd.snd.snd.snd.snd.snd.snd.snd.snd.snd.snd, [])))) fun u446 =>
         letE u446 fun t444 =>
          (k ((t444.snd.snd.snd.snd.snd.snd.snd.snd.fst, t444.snd.snd.snd.snd.snd.snd.snd.snd.snd.fst, t444.snd.snd.snd.snd.snd.snd.snd.snd.snd.snd.fst, t444.snd.snd.snd.snd.snd.snd.snd.snd.snd.snd.snd.fst, t444.snd.snd.snd.snd.snd.snd.snd.snd.snd.snd.snd.snd)))))))))
noncomputable def M.impl_treeAt_N : Nat → List Row → Int → Option (Int × Int × List UInt8 × List UInt8 × List Row)
  | 0 => fun _ _ => none
  | n + 1 => fun l i => M.impl_treeAt_C (M.impl_treeAt_N n) l i some
noncomputable def M.impl_treeAt (l : List Row) (i : Int) : Option (Int × Int × List UInt8 × List UInt8 × List Row) := lim fun n => M.impl_treeAt_N n l i
theorem M.impl_treeAt_n {R : Type} (rec_impl_treeAt : List Row → Int → Option (Int × Int × List UInt8 × List UInt8 × List Row)) (l : List Row) (i : Int) (k : Int × Int × List UInt8 × List UInt8 × List Row → Option R) : M.impl_treeAt_C rec_impl_treeAt l i k = (M.impl_treeAt_C rec_impl_treeAt l i some).bind k := by
  simp only [M.impl_treeAt_C, bif_bind, bind_bind, some_bind, none_bind, sumE_bind, optE_bind, letE_bind]
noncomputable def K.impl_treeAt (rec_impl_treeAt : List Row → Int → Option (Int × Int × List UInt8 × List UInt8 × List Row)) : KonC := knil
noncomputable def L.impl_treeAt (rec_impl_treeAt : List Row → Int → Option (Int × Int × List UInt8 × List UInt8 × List Row)) : LoopC := (lcons 4 (PL.impl_treeAt_l4 rec_impl_treeAt) lnil)
theorem E.impl_treeAt {R : Type} (rec_impl_treeAt : List Row → Int → Option (Int × Int × List UInt8 × List UInt8 × List Row)) (l : List Row) (i : Int) (k : List Row → List Cell → Option R) : bodyC X0 (K.impl_treeAt rec_impl_treeAt) (L.impl_treeAt rec_impl_treeAt) 68 [V.d (D.sl false 5 l), V.d (D.int IntKind.i64 i)] [] k = M.impl_treeAt_C rec_impl_treeAt l i (fun r => k [[D.int IntKind.i64 r.fst, D.int IntKind.i64 r.snd.fst, D.str r.snd.snd.fst, D.str r.snd.snd.snd.fst, D.sl true 5 r.snd.snd.snd.snd]] []) := by kernel_rfl
theorem LC.impl_treeAt : loops (codeOf X0.P 68) = [loopCode X0.P 68 4] := by kernel_rfl
theorem C.impl_treeAt_1 {rec_impl_treeAt : List Row → Int → Option (Int × Int × List UInt8 × List UInt8 × List Row)} (h_impl_treeAt : H.impl_treeAt rec_impl_treeAt) : H.impl_treeAt (fun l i => M.impl_treeAt_C rec_impl_treeAt l i some) := by
  intro l i r h
  exact fn_sound (enc := fun r => ([[D.int IntKind.i64 r.fst, D.int IntKind.i64 r.snd.fst, D.str r.snd.snd.fst, D.str r.snd.snd.snd.fst, D.sl true 5 r.snd.snd.snd.snd]], [])) (K := K.impl_treeAt rec_impl_treeAt) (L := L.impl_treeAt rec_impl_treeAt) (by kernel_rfl) knil_ok (by rw [LC.impl_treeAt]; exact (LOk.cons (LpOk.at (C.impl_treeAt_l4 h_impl_treeAt) (fun _ => rfl)) LOk.nil)) (by rw [E.impl_treeAt, M.impl_treeAt_n] <;> rfl) h
theorem C.impl_treeAt_N : ∀ n, H.impl_treeAt (M.impl_treeAt_N n)
  | 0 => by
    intro l i r h
    cases h
  | n + 1 => C.impl_treeAt_1 (C.impl_treeAt_N n)
theorem C.impl_treeAt : H.impl_treeAt (M.impl_treeAt) := by
  intro l i r h
  obtain ⟨n, hn⟩ := lim_some h
  exact C.impl_treeAt_N n _ _ r hn
theorem M.impl_treeAt_of {n : Nat} {l : List Row} {i : Int} {r : Int × Int × List UInt8 × List UInt8 × List Row} (h : M.impl_treeAt_N n l i = some r) : M.impl_treeAt l i = some r := by
  refine lim_of h fun m y hy => ?_
  have h1 := C.impl_treeAt_N n _ _ r h
  have h2 := C.impl_treeAt_N m _ _ y hy
  rw [h1] at h2
  simp at h2
  (first | exact h2.symm | (simp [Prod.ext_iff, h2]))

/-! impl_rootOf -/
def H.impl_rootOf (o : List Row → Option (Int × Int × List UInt8 × List UInt8 × List Row)) : Prop := ∀ (l : List Row) (r : Int × Int × List UInt8 × List UInt8 × List Row), o l = some r → call X0 43 [V.d (D.sl false 5 l)] [] = some ([[D.int IntKind.i64 r.fst, D.int IntKind.i64 r.snd.fst, D.str r.snd.snd.fst, D.str r.snd.snd.snd.fst, D.sl true 5 r.snd.snd.snd.snd]], [])
def P.impl_rootOf (o : List Row → Option (Int × Int × List UInt8 × List UInt8 × List Row)) (q : List V → List Cell → Res (List Row × List Cell)) (a : List V) (c : List Cell) : Res (List Row × List Cell) := match a, c with
  | [V.d (D.sl false 5 l)], [] => ⟨Int × Int × List UInt8 × List UInt8 × List Row, o l, fun r => ([[D.int IntKind.i64 r.fst, D.int IntKind.i64 r.snd.fst, D.str r.snd.snd.fst, D.str r.snd.snd.snd.fst, D.sl true 5 r.snd.snd.snd.snd]], [])⟩
  | a, c => q a c
theorem P.impl_rootOf_ok {o : List Row → Option (Int × Int × List UInt8 × List UInt8 × List Row)} {q : List V → List Cell → Res (List Row × List Cell)} (h : H.impl_rootOf o) (hq : FnOk X0 43 q) : FnOk X0 43 (P.impl_rootOf o q) := by
  intro a c r hr
  unfold P.impl_rootOf at hr
  split at hr
  · obtain ⟨x, hx, rfl⟩ := Res.val_some hr
    exact h _ x hx
  · exact hq _ _ _ hr
noncomputable def M.impl_rootOf_C {R : Type} (l : List Row) (k : Int × Int × List UInt8 × List UInt8 × List Row → Option R) : Option R :=
  (M.impl_treeAt l (IntKind.i64.wrap ((↑l.length : Int) - 1))).bind fun r447 =>
   (k ((r447.fst, r447.snd.fst, r447.snd.snd.fst, r447.snd.snd.snd.fst, r447.snd.snd.snd.snd)))
noncomputable def M.impl_rootOf (l : List Row) : Option (Int × Int × List UInt8 × List UInt8 × List Row) := M.impl_rootOf_C l some
theorem M.impl_rootOf_n {R : Type} (l : List Row) (k : Int × Int × List UInt8 × List UInt8 × List Row → Option R) : M.impl_rootOf_C l k = (M.impl_rootOf_C l some).bind k := by
  simp only [M.impl_rootOf_C, bif_bind, bind_bind, some_bind, none_bind, sumE_bind, optE_bind, letE_bind]
noncomputable def K.impl_rootOf : KonC := (kcons 68 (P.impl_treeAt M.impl_treeAt pnil) knil)
noncomputable def L.impl_rootOf : LoopC := lnil
theorem E.impl_rootOf {R : Type} (l : List Row) (k : List Row → List Cell → Option R) : bodyC X0 (K.impl_rootOf) (L.impl_rootOf) 43 [V.d (D.sl false 5 l)] [] k = M.impl_rootOf_C l (fun r => k [[D.int IntKind.i64 r.fst, D.int IntKind.i64 r.snd.fst, D.str r.snd.snd.fst, D.str r.snd.snd.snd.fst, D.sl true 5 r.snd.snd.snd.snd]] []) := by kernel_rfl
theorem LC.impl_rootOf : loops (codeOf X0.P 43) = [] := by kernel_rfl
theorem C.impl_rootOf : H.impl_rootOf (M.impl_rootOf) := by
  intro l r h
  exact fn_sound (enc := fun r => ([[D.int IntKind.i64 r.fst, D.int IntKind.i64 r.snd.fst, D.str r.snd.snd.fst, D.str r.snd.snd.snd.fst, D.sl true 5 r.snd.snd.snd.snd]], [])) (K := K.impl_rootOf) (L := L.impl_rootOf) (by kernel_rfl) (kcons_ok (P.impl_treeAt_ok C.impl_treeAt pnil_ok) knil_ok) (by rw [LC.impl_rootOf]; exact LOk.nil) (by rw [E.impl_rootOf, M.impl_rootOf_n] <;> rfl) h

/-! impl_tree_depth -/
def H.impl_tree_depth (o : Int → Int → List UInt8 → List UInt8 → List Row → Option (Int)) : Prop := ∀ (t' : Int) (t'1 : Int) (t'2 : List UInt8) (t'3 : List UInt8) (t'4 : List Row) (r : Int), o t' t'1 t'2 t'3 t'4 = some r → call X0 44 [V.agg [V.d (D.int IntKind.i64 t'), V.d (D.int IntKind.i64 t'1), V.d (D.str t'2), V.d (D.str t'3), V.d (D.sl false 5 t'4)]] [] = some ([[D.int IntKind.i64 r]], [])
def P.impl_tree_depth (o : Int → Int → List UInt8 → List UInt8 → List Row → Option (Int)) (q : List V → List Cell → Res (List Row × List Cell)) (a : List V) (c : List Cell) : Res (List Row × List Cell) := match a, c with
  | [V.agg [V.d (D.int IntKind.i64 t'), V.d (D.int IntKind.i64 t'1), V.d (D.str t'2), V.d (D.str t'3), V.d (D.sl false 5 t'4)]], [] => ⟨Int, o t' t'1 t'2 t'3 t'4, fun r => ([[D.int IntKind.i64 r]], [])⟩
  | a, c => q a c
theorem P.impl_tree_depth_ok {o : Int → Int → List UInt8 → List UInt8 → List Row → Option (Int)} {q : List V → List Cell → Res (List Row × List Cell)} (h : H.impl_tree_depth o) (hq : FnOk X0 44 q) : FnOk X0 44 (P.impl_tree_depth o q) := by
  intro a c r hr
  unfold P.impl_tree_depth at hr
  split at hr
  · obtain ⟨x, hx, rfl⟩ := Res.val_some hr
    exact h _ _ _ _ _ x hx
  · exact hq _ _ _ hr
noncomputable def M.impl_tree_depth_l3_C {R : Type} (rec_impl_tree_depth : Int → Int → List UInt8 → List UInt8 → List Row → Option (Int)) (v7 : List Row) (v8 : Int) (s : Int × Int) (kn : Int × Int → Option R) (ke : Int × Int → Option R) : Option R := match s with
  | (most, v9) =>
    bif decide (v9 < v8) then
     ((idx v7 v9).bind fun row449 =>
      ((cInt IntKind.i64 row449 0).bind fun n450 =>
       ((cInt IntKind.i64 row449 1).bind fun n451 =>
        ((cStr row449 2).bind fun s452 =>
         ((cStr row449 3).bind fun s453 =>
          ((cSl 5 row449 4).bind fun rows454 =>
           ((rec_impl_tree_depth n450 n451 s452 s453 rows454).bind fun r455 => (kn ((bif decide (most < r455) then r455 else most, IntKind.i64.wrap (v9 + 1))))))))))) else (ke ((most, v9)))
noncomputable def M.impl_tree_depth_l3_b (rec_impl_tree_depth : Int → Int → List UInt8 → List UInt8 → List Row → Option (Int)) (v7 : List Row) (v8 : Int) (s : Int × Int) : Option ((Int × Int) ⊕ (Int × Int)) := M.impl_tree_depth_l3_C rec_impl_tree_depth v7 v8 s (fun s => some (.inl s)) (fun t => some (.inr t))
noncomputable def M.impl_tree_depth_l3 (rec_impl_tree_depth : Int → Int → List UInt8 → List UInt8 → List Row → Option (Int)) (v7 : List Row) (v8 : Int) (s : Int × Int) : Option (Int × Int) := loopM (M.impl_tree_depth_l3_b rec_impl_tree_depth v7 v8) s
theorem M.impl_tree_depth_l3_n {R : Type} (rec_impl_tree_depth : Int → Int → List UInt8 → List UInt8 → List Row → Option (Int)) (v7 : List Row) (v8 : Int) (s : Int × Int) (kn : Int × Int → Option R) (ke : Int × Int → Option R) : M.impl_tree_depth_l3_C rec_impl_tree_depth v7 v8 s kn ke = (M.impl_tree_depth_l3_b rec_impl_tree_depth v7 v8 s).bind fun r => match r with | .inl s => kn s | .inr t => ke t := by
  obtain ⟨most, v9⟩ := s
  all_goals
    simp only [M.impl_tree_depth_l3_b, M.impl_tree_depth_l3_C, bif_bind, bind_bind, some_bind, none_bind, sumE_bind, optE_bind, letE_bind]
def A.impl_tree_depth_l3 (v7 : List Row) (v8 : Int) : Alt (Ex × St) := .leaf (Int × Int) (fun t => (Ex.exit 0, { tm := [(3, V.d (D.int IntKind.i64 t.fst)), (7, V.d (D.sl false 5 v7)), (8, V.d (D.int IntKind.i64 v8)), (9, V.d (D.int IntKind.i64 t.snd)), (10, V.d (D.bool false))], mem := [] }))
def T.impl_tree_depth_l3 (v7 : List Row) (v8 : Int) (s : Int × Int) : St := match s with
  | (most, v9) => { tm := [(3, V.d (D.int IntKind.i64 most)), (7, V.d (D.sl false 5 v7)), (8, V.d (D.int IntKind.i64 v8)), (9, V.d (D.int IntKind.i64 v9))], mem := [] }
noncomputable def K.impl_tree_depth_l3 (rec_impl_tree_depth : Int → Int → List UInt8 → List UInt8 → List Row → Option (Int)) : KonC := (kcons 44 (P.impl_tree_depth rec_impl_tree_depth pnil) knil)
noncomputable def L.impl_tree_depth_l3 (rec_impl_tree_depth : Int → Int → List UInt8 → List UInt8 → List Row → Option (Int)) : LoopC := lnil
theorem E.impl_tree_depth_l3 {R : Type} (rec_impl_tree_depth : Int → Int → List UInt8 → List UInt8 → List Row → Option (Int)) (v7 : List Row) (v8 : Int) (s : Int × Int) (k : Ex → St → Option R) : denC X0 (K.impl_tree_depth_l3 rec_impl_tree_depth) (L.impl_tree_depth_l3 rec_impl_tree_depth) 44 (loopCode X0.P 44 3) (T.impl_tree_depth_l3 v7 v8 s) k = M.impl_tree_depth_l3_C rec_impl_tree_depth v7 v8 s (fun s => k .normal (T.impl_tree_depth_l3 v7 v8 s)) (fun t => (A.impl_tree_depth_l3 v7 v8).go t fun r => k r.1 r.2) := by
  obtain ⟨most, v9⟩ := s
  all_goals kernel_rfl
theorem LC.impl_tree_depth_l3 : loops (loopCode X0.P 44 3) = [] := by kernel_rfl
noncomputable def PL.impl_tree_depth_l3 (rec_impl_tree_depth : Int → Int → List UInt8 → List UInt8 → List Row → Option (Int)) (S : St) : ResA (Ex × St) := match S with
  | { tm := [(3, V.d (D.int IntKind.i64 most)), (7, V.d (D.sl false 5 v7)), (8, V.d (D.int IntKind.i64 v8)), (9, V.d (D.int IntKind.i64 v9))], mem := [] } => ⟨A.impl_tree_depth_l3 v7 v8, M.impl_tree_depth_l3 rec_impl_tree_depth v7 v8 ((most, v9))⟩
  | _ => .none
theorem C.impl_tree_depth_l3 {rec_impl_tree_depth : Int → Int → List UInt8 → List UInt8 → List Row → Option (Int)} (h_impl_tree_depth : H.impl_tree_depth rec_impl_tree_depth) : LpOk X0 44 3 (loopCode X0.P 44 3) (PL.impl_tree_depth_l3 rec_impl_tree_depth) := by
  refine ⟨by kernel_rfl, fun S r hr => ?_⟩
  unfold PL.impl_tree_depth_l3 at hr
  split at hr
  · obtain ⟨x, hx, rfl⟩ := ResA.val_some hr
    exact lp_sound (K := K.impl_tree_depth_l3 rec_impl_tree_depth) (L := L.impl_tree_depth_l3 rec_impl_tree_depth) (b := M.impl_tree_depth_l3_b rec_impl_tree_depth _ _) (tm := T.impl_tree_depth_l3 _ _) (tx := (A.impl_tree_depth_l3 _ _).enc) (kcons_ok (P.impl_tree_depth_ok h_impl_tree_depth pnil_ok) knil_ok) (by rw [LC.impl_tree_depth_l3]; exact LOk.nil) (fun s => by rw [E.impl_tree_depth_l3, M.impl_tree_depth_l3_n]; congr 1; funext r; cases r <;> first | rfl | exact Alt.go_eq _ _ _) (by intro t; intro h; cases h) hx (s := (_, _))
  · cases hr
noncomputable def M.impl_tree_depth_C {R : Type} (rec_impl_tree_depth : Int → Int → List UInt8 → List UInt8 → List Row → Option (Int)) (t' : Int) (t'1 : Int) (t'2 : List UInt8) (t'3 : List UInt8) (t'4 : List Row) (k : Int → Option R) : Option R :=
  (M.impl_tree_depth_l3 rec_impl_tree_depth t'4 ((↑t'4.length : Int)) ((0, 0))).bind fun t456 => (k (IntKind.i64.wrap (t456.fst + 1)))
noncomputable def M.impl_tree_depth_N : Nat → Int → Int → List UInt8 → List UInt8 → List Row → Option (Int)
  | 0 => fun _ _ _ _ _ => none
  | n + 1 => fun t' t'1 t'2 t'3 t'4 => M.impl_tree_depth_C (M.impl_tree_depth_N n) t' t'1 t'2 t'3 t'4 some
noncomputable def M.impl_tree_depth (t' : Int) (t'1 : Int) (t'2 : List UInt8) (t'3 : List UInt8) (t'4 : List Row) : Option (Int) := lim fun n => M.impl_tree_depth_N n t' t'1 t'2 t'3 t'4
theorem M.impl_tree_depth_n {R : Type} (rec_impl_tree_depth : Int → Int → List UInt8 → List UInt8 → List Row → Option (Int)) (t' : Int) (t'1 : Int) (t'2 : List UInt8) (t'3 : List UInt8) (t'4 : List Row) (k : Int → Option R) : M.impl_tree_depth_C rec_impl_tree_depth t' t'1 t'2 t'3 t'4 k = (M.impl_tree_depth_C rec_impl_tree_depth t' t'1 t'2 t'3 t'4 some).bind k := by
  simp only [M.impl_tree_depth_C, bif_bind, bind_bind, some_bind, none_bind, sumE_bind, optE_bind, letE_bind]
noncomputable def K.impl_tree_depth (rec_impl_tree_depth : Int → Int → List UInt8 → List UInt8 → List Row → Option (Int)) : KonC := knil
noncomputable def L.impl_tree_depth (rec_impl_tree_depth : Int → Int → List UInt8 → List UInt8 → List Row → Option (Int)) : LoopC := (lcons 3 (PL.impl_tree_depth_l3 rec_impl_tree_depth) lnil)
theorem E.impl_tree_depth {R : Type} (rec_impl_tree_depth : Int → Int → List UInt8 → List UInt8 → List Row → Option (Int)) (t' : Int) (t'1 : Int) (t'2 : List UInt8) (t'3 : List UInt8) (t'4 : List Row) (k : List Row → List Cell → Option R) : bodyC X0 (K.impl_tree_depth rec_impl_tree_depth) (L.impl_tree_depth rec_impl_tree_depth) 44 [V.agg [V.d (D.int IntKind.i64 t'), V.d (D.int IntKind.i64 t'1), V.d (D.str t'2), V.d (D.str t'3), V.d (D.sl false 5 t'4)]] [] k = M.impl_tree_depth_C rec_impl_tree_depth t' t'1 t'2 t'3 t'4 (fun r => k [[D.int IntKind.i64 r]] []) := by kernel_rfl
theorem LC.impl_tree_depth : loops (codeOf X0.P 44) = [loopCode X0.P 44 3] := by kernel_rfl
theorem C.impl_tree_depth_1 {rec_impl_tree_depth : Int → Int → List UInt8 → List UInt8 → List Row → Option (Int)} (h_impl_tree_depth : H.impl_tree_depth rec_impl_tree_depth) : H.impl_tree_depth (fun t' t'1 t'2 t'3 t'4 => M.impl_tree_depth_C rec_impl_tree_depth t' t'1 t'2 t'3 t'4 some) := by
  intro t' t'1 t'2 t'3 t'4 r h
  exact fn_sound (enc := fun r => ([[D.int IntKind.i64 r]], [])) (K := K.impl_tree_depth rec_impl_tree_depth) (L := L.impl_tree_depth rec_impl_tree_depth) (by kernel_rfl) knil_ok (by rw [LC.impl_tree_depth]; exact (LOk.cons (LpOk.at (C.impl_tree_depth_l3 h_impl_tree_depth) (fun _ => rfl)) LOk.nil)) (by rw [E.impl_tree_depth, M.impl_tree_depth_n] <;> rfl) h
theorem C.impl_tree_depth_N : ∀ n, H.impl_tree_depth (M.impl_tree_depth_N n)
  | 0 => by
    intro t' t'1 t'2 t'3 t'4 r h
    cases h
  | n + 1 => C.impl_tree_depth_1 (C.impl_tree_depth_N n)
theorem C.impl_tree_depth : H.impl_tree_depth (M.impl_tree_depth) := by
  intro t' t'1 t'2 t'3 t'4 r h
  obtain ⟨n, hn⟩ := lim_some h
  exact C.impl_tree_depth_N n _ _ _ _ _ r hn
theorem M.impl_tree_depth_of {n : Nat} {t' : Int} {t'1 : Int} {t'2 : List UInt8} {t'3 : List UInt8} {t'4 : List Row} {r : Int} (h : M.impl_tree_depth_N n t' t'1 t'2 t'3 t'4 = some r) : M.impl_tree_depth t' t'1 t'2 t'3 t'4 = some r := by
  refine lim_of h fun m y hy => ?_
  have h1 := C.impl_tree_depth_N n _ _ _ _ _ r h
  have h2 := C.impl_tree_depth_N m _ _ _ _ _ y hy
  rw [h1] at h2
  simp at h2
  (first | exact h2.symm | (simp [Prod.ext_iff, h2]))

/-! impl_TreeOk -/
def H.impl_TreeOk (o : List Row → Option (Bool)) : Prop := ∀ (l : List Row) (r : Bool), o l = some r → call X0 30 [V.d (D.sl false 5 l)] [] = some ([[D.bool r]], [])
def P.impl_TreeOk (o : List Row → Option (Bool)) (q : List V → List Cell → Res (List Row × List Cell)) (a : List V) (c : List Cell) : Res (List Row × List Cell) := match a, c with
  | [V.d (D.sl false 5 l)], [] => ⟨Bool, o l, fun r => ([[D.bool r]], [])⟩
  | a, c => q a c
theorem P.impl_TreeOk_ok {o : List Row → Option (Bool)} {q : List V → List Cell → Res (List Row × List Cell)} (h : H.impl_TreeOk o) (hq : FnOk X0 30 q) : FnOk X0 30 (P.impl_TreeOk o q) := by
  intro a c r hr
  unfold P.impl_TreeOk at hr
  split at hr
  · obtain ⟨x, hx, rfl⟩ := Res.val_some hr
    exact h _ x hx
  · exact hq _ _ _ hr
noncomputable def M.impl_TreeOk_l9_C {R : Type} (l : List Row) (v10 : List Row) (v11 : Int) (v12 : Int) (v20 : List Row) (v21 : Int) (x' : Int) (x'1 : Int) (x'2 : List UInt8) (x'3 : List UInt8) (x'4 : List Row) (s : Int) (kn : Int → Option R) (ke : (Unit) ⊕ (Int) → Option R) : Option R := match s with
  | v22 =>
    bif decide (v22 < v21) then
     ((idx v20 v22).bind fun row404 =>
      ((cInt IntKind.i64 row404 0).bind fun n405 =>
       ((idx l n405).bind fun row406 =>
        ((cInt IntKind.i64 row406 0).bind fun n407 =>
         ((M.impl_kidOk x' x'1 x'2 x'3 x'4 v22 n407).bind fun r426 => (bif !r426 then (ke (.inl ())) else (kn (IntKind.i64.wrap (v22 + 1))))))))) else (ke (.inr v22))
noncomputable def M.impl_TreeOk_l9_b (l : List Row) (v10 : List Row) (v11 : Int) (v12 : Int) (v20 : List Row) (v21 : Int) (x' : Int) (x'1 : Int) (x'2 : List UInt8) (x'3 : List UInt8) (x'4 : List Row) (s : Int) : Option ((Int) ⊕ ((Unit) ⊕ (Int))) := M.impl_TreeOk_l9_C l v10 v11 v12 v20 v21 x' x'1 x'2 x'3 x'4 s (fun s => some (.inl s)) (fun t => some (.inr t))
noncomputable def M.impl_TreeOk_l9 (l : List Row) (v10 : List Row) (v11 : Int) (v12 : Int) (v20 : List Row) (v21 : Int) (x' : Int) (x'1 : Int) (x'2 : List UInt8) (x'3 : List UInt8) (x'4 : List Row) (s : Int) : Option ((Unit) ⊕ (Int)) := loopM (M.impl_TreeOk_l9_b l v10 v11 v12 v20 v21 x' x'1 x'2 x'3 x'4) s
theorem M.impl_TreeOk_l9_n {R : Type} (l : List Row) (v10 : List Row) (v11 : Int) (v12 : Int) (v20 : List Row) (v21 : Int) (x' : Int) (x'1 : Int) (x'2 : List UInt8) (x'3 : List UInt8) (x'4 : List Row) (s : Int) (kn : Int → Option R) (ke : (Unit) ⊕ (Int) → Option R) : M.impl_TreeOk_l9_C l v10 v11 v12 v20 v21 x' x'1 x'2 x'3 x'4 s kn ke = (M.impl_TreeOk_l9_b l v10 v11 v12 v20 v21 x' x'1 x'2 x'3 x'4 s).bind fun r => match r with | .inl s => kn s | .inr t => ke t := by
  skip
  all_goals
    simp only [M.impl_TreeOk_l9_b, M.impl_TreeOk_l9_C, bif_bind, bind_bind, some_bind, none_bind, sumE_bind, optE_bind, letE_bind]
def A.impl_TreeOk_l9 (l : List Row) (v10 : List Row) (v11 : Int) (v12 : Int) (v20 : List Row) (v21 : Int) (x' : Int) (x'1 : Int) (x'2 : List UInt8) (x'3 : List UInt8) (x'4 : List Row) : Alt (Ex × St) := .sum (.leaf (Unit) (fun t => (Ex.ret, { tm := [(2, V.d (D.bool false))], mem := [] }))) (.leaf (Int) (fun t => (Ex.exit 2, { tm := [(0, V.d (D.sl false 5 l)), (4, V.ptr 300000 0), (10, V.d (D.sl false 5 v10)), (11, V.d (D.int IntKind.i64 v11)), (12, V.d (D.int IntKind.i64 v12)), (20, V.d (D.sl false 1 v20)), (21, V.d (D.int IntKind.i64 v21)), (22, V.d (D.int IntKind.i64 t)), (23, V.d (D.bool false))], mem := [(300000, Cell.box 40 [V.d (D.int IntKind.i64 x'), V.d (D.int IntKind.i64 x'1), V.d (D.str x'2), V.d (D.str x'3), V.d (D.sl false 1 x'4)])] })))
def T.impl_TreeOk_l9 (l : List Row) (v10 : List Row) (v11 : Int) (v12 : Int) (v20 : List Row) (v21 : Int) (x' : Int) (x'1 : Int) (x'2 : List UInt8) (x'3 : List UInt8) (x'4 : List Row) (s : Int) : St := match s with
  | v22 => { tm := [(0, V.d (D.sl false 5 l)), (4, V.ptr 300000 0), (10, V.d (D.sl false 5 v10)), (11, V.d (D.int IntKind.i64 v11)), (12, V.d (D.int IntKind.i64 v12)), (20, V.d (D.sl false 1 v20)), (21, V.d (D.int IntKind.i64 v21)), (22, V.d (D.int IntKind.i64 v22))], mem := [(300000, Cell.box 40 [V.d (D.int IntKind.i64 x'), V.d (D.int IntKind.i64 x'1), V.d (D.str x'2), V.d (D.str x'3), V.d (D.sl false 1 x'4)])] }
noncomputable def K.impl_TreeOk_l9 : KonC := (kcons 42 (P.impl_kidOk M.impl_kidOk pnil) knil)
noncomputable def L.impl_TreeOk_l9 : LoopC := lnil
theorem E.impl_TreeOk_l9 {R : Type} (l : List Row) (v10 : List Row) (v11 : Int) (v12 : Int) (v20 : List Row) (v21 : Int) (x' : Int) (x'1 : Int) (x'2 : List UInt8) (x'3 : List UInt8) (x'4 : List Row) (s : Int) (k : Ex → St → Option R) : denC X0 (K.impl_TreeOk_l9) (L.impl_TreeOk_l9) 30 (loopCode X0.P 30 9) (T.impl_TreeOk_l9 l v10 v11 v12 v20 v21 x' x'1 x'2 x'3 x'4 s) k = M.impl_TreeOk_l9_C l v10 v11 v12 v20 v21 x' x'1 x'2 x'3 x'4 s (fun s => k .normal (T.impl_TreeOk_l9 l v10 v11 v12 v20 v21 x' x'1 x'2 x'3 x'4 s)) (fun t => (A.impl_TreeOk_l9 l v10 v11 v12 v20 v21 x' x'1 x'2 x'3 x'4).go t fun r => k r.1 r.2) := by
  skip
  all_goals kernel_rfl
theorem LC.impl_TreeOk_l9 : loops (loopCode X0.P 30 9) = [] := by kernel_rfl
noncomputable def PL.impl_TreeOk_l9 (S : St) : ResA (Ex × St) := match S with
  | { tm := [(0, V.d (D.sl false 5 l)), (4, V.ptr 300000 0), (10, V.d (D.sl false 5 v10)), (11, V.d (D.int IntKind.i64 v11)), (12, V.d (D.int IntKind.i64 v12)), (20, V.d (D.sl false 1 v20)), (21, V.d (D.int IntKind.i64 v21)), (22, V.d (D.int IntKind.i64 v22))], mem := [(300000, Cell.box 40 [V.d (D.int IntKind.i64 x'), V.d (D.int IntKind.i64 x'1), V.d (D.str x'2), V.d (D.str x'3), V.d (D.sl false 1 x'4)])] } => ⟨A.impl_TreeOk_l9 l v10 v11 v12 v20 v21 x' x'1 x'2 x'3 x'4, M.impl_TreeOk_l9 l v10 v11 v12 v20 v21 x' x'1 x'2 x'3 x'4 v22⟩
  | _ => .none
theorem C.impl_TreeOk_l9 : LpOk X0 30 9 (loopCode X0.P 30 9) (PL.impl_TreeOk_l9) := by
  refine ⟨by kernel_rfl, fun S r hr => ?_⟩
  unfold PL.impl_TreeOk_l9 at hr
  split at hr
  · obtain ⟨x, hx, rfl⟩ := ResA.val_some hr
    exact lp_sound (K := K.impl_TreeOk_l9) (L := L.impl_TreeOk_l9) (b := M.impl_TreeOk_l9_b _ _ _ _ _ _ _ _ _ _ _) (tm := T.impl_TreeOk_l9 _ _ _ _ _ _ _ _ _ _ _) (tx := (A.impl_TreeOk_l9 _ _ _ _ _ _ _ _ _ _ _).enc) (kcons_ok (P.impl_kidOk_ok C.impl_kidOk pnil_ok) knil_ok) (by rw [LC.impl_TreeOk_l9]; exact LOk.nil) (fun s => by rw [E.impl_TreeOk_l9, M.impl_TreeOk_l9_n]; congr 1; funext r; cases r <;> first | rfl | exact Alt.go_eq _ _ _) (by intro t; rcases t with t | t <;> first | (intro h; cases h) | (intro h; cases h)) hx (s := _)
  · cases hr
noncomputable def M.impl_TreeOk_l4_C {R : Type} (l : List Row) (v10 : List Row) (v11 : Int) (s : Int) (kn : Int → Option R) (ke : (Unit) ⊕ (Int) → Option R) : Option R := match s with
  | v12 =>
    bif decide (v12 < v11) then
     ((idx v10 v12).bind fun row285 =>
      ((cInt IntKind.i64 row285 0).bind fun n286 =>
       ((cInt IntKind.i64 row285 1).bind fun n287 =>
        ((cStr row285 2).bind fun s288 =>
         ((cStr row285 3).bind fun s289 =>
          ((cSl 1 row285 4).bind fun rows290 =>
           ((M.impl_FieldsOk n286 n287 s288 s289 rows290).bind fun r403 =>
            (bif !r403 then (ke (.inl ())) else
             ((M.impl_TreeOk_l9 l v10 v11 v12 rows290 ((↑rows290.length : Int)) n286 n287 s288 s289 rows290 0).bind fun u458 =>
             sumE u458 (fun t427 => (ke (.inl ()))) fun u459 =>
              letE u459 fun t428 => (kn (IntKind.i64.wrap (v12 + 1)))))))))))) else (ke (.inr v12))
noncomputable def M.impl_TreeOk_l4_b (l : List Row) (v10 : List Row) (v11 : Int) (s : Int) : Option ((Int) ⊕ ((Unit) ⊕ (Int))) := M.impl_TreeOk_l4_C l v10 v11 s (fun s => some (.inl s)) (fun t => some (.inr t))
noncomputable def M.impl_TreeOk_l4 (l : List Row) (v10 : List Row) (v11 : Int) (s : Int) : Option ((Unit) ⊕ (Int)) := loopM (M.impl_TreeOk_l4_b l v10 v11) s
theorem M.impl_TreeOk_l4_n {R : Type} (l : List Row) (v10 : List Row) (v11 : Int) (s : Int) (kn : Int → Option R) (ke : (Unit) ⊕ (Int) → Option R) : M.impl_TreeOk_l4_C l v10 v11 s kn ke = (M.impl_TreeOk_l4_b l v10 v11 s).bind fun r => match r with | .inl s => kn s | .inr t => ke t := by
  skip
  all_goals
    simp only [M.impl_TreeOk_l4_b, M.impl_TreeOk_l4_C, bif_bind, bind_bind, some_bind, none_bind, sumE_bind, optE_bind, letE_bind]
def A.impl_TreeOk_l4 (l : List Row) (v10 : List Row) (v11 : Int) : Alt (Ex × St) := .sum (.leaf (Unit) (fun t => (Ex.ret, { tm := [(2, V.d (D.bool false))], mem := [] }))) (.leaf (Int) (fun t => (Ex.exit 0, { tm := [(0, V.d (D.sl false 5 l)), (10, V.d (D.sl false 5 v10)), (11, V.d (D.int IntKind.i64 v11)), (12, V.d (D.int IntKind.i64 t)), (13, V.d (D.bool false))], mem := [] })))
def T.impl_TreeOk_l4 (l : List Row) (v10 : List Row) (v11 : Int) (s : Int) : St := match s with
  | v12 => { tm := [(0, V.d (D.sl false 5 l)), (10, V.d (D.sl false 5 v10)), (11, V.d (D.int IntKind.i64 v11)), (12, V.d (D.int IntKind.i64 v12))], mem := [] }
noncomputable def K.impl_TreeOk_l4 : KonC := (kcons 41 (P.impl_FieldsOk M.impl_FieldsOk pnil) knil)
noncomputable def L.impl_TreeOk_l4 : LoopC := (lcons 9 (PL.impl_TreeOk_l9) lnil)
theorem E.impl_TreeOk_l4 {R : Type} (l : List Row) (v10 : List Row) (v11 : Int) (s : Int) (k : Ex → St → Option R) : denC X0 (K.impl_TreeOk_l4) (L.impl_TreeOk_l4) 30 (loopCode X0.P 30 4) (T.impl_TreeOk_l4 l v10 v11 s) k = M.impl_TreeOk_l4_C l v10 v11 s (fun s => k .normal (T.impl_TreeOk_l4 l v10 v11 s)) (fun t => (A.impl_TreeOk_l4 l v10 v11).go t fun r => k r.1 r.2) := by
  skip
  all_goals kernel_rfl
theorem LC.impl_TreeOk_l4 : loops (loopCode X0.P 30 4) = [loopCode X0.P 30 9] := by kernel_rfl
noncomputable def PL.impl_TreeOk_l4 (S : St) : ResA (Ex × St) := match S with
  | { tm := [(0, V.d (D.sl false 5 l)), (10, V.d (D.sl false 5 v10)), (11, V.d (D.int IntKind.i64 v11)), (12, V.d (D.int IntKind.i64 v12))], mem := [] } => ⟨A.impl_TreeOk_l4 l v10 v11, M.impl_TreeOk_l4 l v10 v11 v12⟩
  | _ => .none
theorem C.impl_TreeOk_l4 : LpOk X0 30 4 (loopCode X0.P 30 4) (PL.impl_TreeOk_l4) := by
  refine ⟨by kernel_rfl, fun S r hr => ?_⟩
  unfold PL.impl_TreeOk_l4 at hr
  split at hr
  · obtain ⟨x, hx, rfl⟩ := ResA.val_some hr
    exact lp_sound (K := K.impl_TreeOk_l4) (L := L.impl_TreeOk_l4) (b := M.impl_TreeOk_l4_b _ _ _) (tm := T.impl_TreeOk_l4 _ _ _) (tx := (A.impl_TreeOk_l4 _ _ _).enc) (kcons_ok (P.impl_FieldsOk_ok C.impl_FieldsOk pnil_ok) knil_ok) (by rw [LC.impl_TreeOk_l4]; exact (LOk.cons (LpOk.at (C.impl_TreeOk_l9) (fun _ => rfl)) LOk.nil)) (fun s => by rw [E.impl_TreeOk_l4, M.impl_TreeOk_l4_n]; congr 1; funext r; cases r <;> first | rfl | exact Alt.go_eq _ _ _) (by intro t; rcases t with t | t <;> first | (intro h; cases h) | (intro h; cases h)) hx (s := _)
  · cases hr
noncomputable def M.impl_TreeOk_C {R : Type} (l : List Row) (k : Bool → Option R) : Option R :=
  (M.impl_ShapeOk l).bind fun r284 =>
   (bif !r284 then (k false) else
    ((M.impl_TreeOk_l4 l l ((↑l.length : Int)) 0).bind fun u460 =>
    sumE u460 (fun t429 => (k false)) fun u461 =>
     letE u461 fun t430 =>
      ((M.impl_rootOf l).bind fun r448 =>
       ((M.impl_tree_depth r448.fst r448.snd.fst r448.snd.snd.fst r448.snd.snd.snd.fst (fzRows r448.snd.snd.snd.snd)).bind fun r457 => (k (decide (r457 ≤ 40)))))))
noncomputable def M.impl_TreeOk (l : List Row) : Option (Bool) := M.impl_TreeOk_C l some
theorem M.impl_TreeOk_n {R : Type} (l : List Row) (k : Bool → Option R) : M.impl_TreeOk_C l k = (M.impl_TreeOk_C l some).bind k := by
  simp only [M.impl_TreeOk_C, bif_bind, bind_bind, some_bind, none_bind, sumE_bind, optE_bind, letE_bind]
noncomputable def K.impl_TreeOk : KonC := (kcons 40 (P.impl_ShapeOk M.impl_ShapeOk pnil) (kcons 43 (P.impl_rootOf M.impl_rootOf pnil) (kcons 44 (P.impl_tree_depth M.impl_tree_depth pnil) knil)))
noncomputable def L.impl_TreeOk : LoopC := (lcons 4 (PL.impl_TreeOk_l4) lnil)
theorem E.impl_TreeOk {R : Type} (l : List Row) (k : List Row → List Cell → Option R) : bodyC X0 (K.impl_TreeOk) (L.impl_TreeOk) 30 [V.d (D.sl false 5 l)] [] k = M.impl_TreeOk_C l (fun r => k [[D.bool r]] []) := by kernel_rfl
theorem LC.impl_TreeOk : loops (codeOf X0.P 30) = [loopCode X0.P 30 4] := by kernel_rfl
theorem C.impl_TreeOk : H.impl_TreeOk (M.impl_TreeOk) := by
  intro l r h
  exact fn_sound (enc := fun r => ([[D.bool r]], [])) (K := K.impl_TreeOk) (L := L.impl_TreeOk) (by kernel_rfl) (kcons_ok (P.impl_ShapeOk_ok C.impl_ShapeOk pnil_ok) (kcons_ok (P.impl_rootOf_ok C.impl_rootOf pnil_ok) (kcons_ok (P.impl_tree_depth_ok C.impl_tree_depth pnil_ok) knil_ok))) (by rw [LC.impl_TreeOk]; exact (LOk.cons (LpOk.at (C.impl_TreeOk_l4) (fun _ => rfl)) LOk.nil)) (by rw [E.impl_TreeOk, M.impl_TreeOk_n] <;> rfl) h

/-! impl_ProgramOk -/
def H.impl_ProgramOk (o : List Row → Option (Bool)) : Prop := ∀ (l : List Row) (r : Bool), o l = some r → call X0 19 [V.d (D.sl false 5 l)] [] = some ([[D.bool r]], [])
def P.impl_ProgramOk (o : List Row → Option (Bool)) (q : List V → List Cell → Res (List Row × List Cell)) (a : List V) (c : List Cell) : Res (List Row × List Cell) := match a, c with
  | [V.d (D.sl false 5 l)], [] => ⟨Bool, o l, fun r => ([[D.bool r]], [])⟩
  | a, c => q a c
theorem P.impl_ProgramOk_ok {o : List Row → Option (Bool)} {q : List V → List Cell → Res (List Row × List Cell)} (h : H.impl_ProgramOk o) (hq : FnOk X0 19 q) : FnOk X0 19 (P.impl_ProgramOk o q) := by
  intro a c r hr
  unfold P.impl_ProgramOk at hr
  split at hr
  · obtain ⟨x, hx, rfl⟩ := Res.val_some hr
    exact h _ x hx
  · exact hq _ _ _ hr
noncomputable def M.impl_ProgramOk_C {R : Type} (l : List Row) (k : Bool → Option R) : Option R :=
  (M.impl_TreeOk l).bind fun r462 =>
   (bif r462 then
    ((idx l (IntKind.i64.wrap ((↑l.length : Int) - 1))).bind fun row463 => ((cInt IntKind.i64 row463 0).bind fun n464 => (k (n464 == 45)))) else (k false))
noncomputable def M.impl_ProgramOk (l : List Row) : Option (Bool) := M.impl_ProgramOk_C l some
theorem M.impl_ProgramOk_n {R : Type} (l : List Row) (k : Bool → Option R) : M.impl_ProgramOk_C l k = (M.impl_ProgramOk_C l some).bind k := by
  simp only [M.impl_ProgramOk_C, bif_bind, bind_bind, some_bind, none_bind, sumE_bind, optE_bind, letE_bind]
noncomputable def K.impl_ProgramOk : KonC := (kcons 30 (P.impl_TreeOk M.impl_TreeOk pnil) knil)
noncomputable def L.impl_ProgramOk : LoopC := lnil
theorem E.impl_ProgramOk {R : Type} (l : List Row) (k : List Row → List Cell → Option R) : bodyC X0 (K.impl_ProgramOk) (L.impl_ProgramOk) 19 [V.d (D.sl false 5 l)] [] k = M.impl_ProgramOk_C l (fun r => k [[D.bool r]] []) := by kernel_rfl
theorem LC.impl_ProgramOk : loops (codeOf X0.P 19) = [] := by kernel_rfl
theorem C.impl_ProgramOk : H.impl_ProgramOk (M.impl_ProgramOk) := by
  intro l r h
  exact fn_sound (enc := fun r => ([[D.bool r]], [])) (K := K.impl_ProgramOk) (L := L.impl_ProgramOk) (by kernel_rfl) (kcons_ok (P.impl_TreeOk_ok C.impl_TreeOk pnil_ok) knil_ok) (by rw [LC.impl_ProgramOk]; exact LOk.nil) (by rw [E.impl_ProgramOk, M.impl_ProgramOk_n] <;> rfl) h

/-! impl_ItemsOf -/
def H.impl_ItemsOf (o : List Row → Option (Int)) : Prop := ∀ (l : List Row) (r : Int), o l = some r → call X0 10 [V.d (D.sl false 5 l)] [] = some ([[D.int IntKind.i64 r]], [])
def P.impl_ItemsOf (o : List Row → Option (Int)) (q : List V → List Cell → Res (List Row × List Cell)) (a : List V) (c : List Cell) : Res (List Row × List Cell) := match a, c with
  | [V.d (D.sl false 5 l)], [] => ⟨Int, o l, fun r => ([[D.int IntKind.i64 r]], [])⟩
  | a, c => q a c
theorem P.impl_ItemsOf_ok {o : List Row → Option (Int)} {q : List V → List Cell → Res (List Row × List Cell)} (h : H.impl_ItemsOf o) (hq : FnOk X0 10 q) : FnOk X0 10 (P.impl_ItemsOf o q) := by
  intro a c r hr
  unfold P.impl_ItemsOf at hr
  split at hr
  · obtain ⟨x, hx, rfl⟩ := Res.val_some hr
    exact h _ x hx
  · exact hq _ _ _ hr
noncomputable def M.impl_ItemsOf_C {R : Type} (l : List Row) (k : Int → Option R) : Option R :=
  (M.impl_ProgramOk l).bind fun r465 =>
   (bif !r465 then (k 0) else
    ((idx l (IntKind.i64.wrap ((↑l.length : Int) - 1))).bind fun row466 => ((cSl 1 row466 4).bind fun rows467 => (k ((↑rows467.length : Int))))))
noncomputable def M.impl_ItemsOf (l : List Row) : Option (Int) := M.impl_ItemsOf_C l some
theorem M.impl_ItemsOf_n {R : Type} (l : List Row) (k : Int → Option R) : M.impl_ItemsOf_C l k = (M.impl_ItemsOf_C l some).bind k := by
  simp only [M.impl_ItemsOf_C, bif_bind, bind_bind, some_bind, none_bind, sumE_bind, optE_bind, letE_bind]
noncomputable def K.impl_ItemsOf : KonC := (kcons 19 (P.impl_ProgramOk M.impl_ProgramOk pnil) knil)
noncomputable def L.impl_ItemsOf : LoopC := lnil
theorem E.impl_ItemsOf {R : Type} (l : List Row) (k : List Row → List Cell → Option R) : bodyC X0 (K.impl_ItemsOf) (L.impl_ItemsOf) 10 [V.d (D.sl false 5 l)] [] k = M.impl_ItemsOf_C l (fun r => k [[D.int IntKind.i64 r]] []) := by kernel_rfl
theorem LC.impl_ItemsOf : loops (codeOf X0.P 10) = [] := by kernel_rfl
theorem C.impl_ItemsOf : H.impl_ItemsOf (M.impl_ItemsOf) := by
  intro l r h
  exact fn_sound (enc := fun r => ([[D.int IntKind.i64 r]], [])) (K := K.impl_ItemsOf) (L := L.impl_ItemsOf) (by kernel_rfl) (kcons_ok (P.impl_ProgramOk_ok C.impl_ProgramOk pnil_ok) knil_ok) (by rw [LC.impl_ItemsOf]; exact LOk.nil) (by rw [E.impl_ItemsOf, M.impl_ItemsOf_n] <;> rfl) h

/-! laws_eqIntS -/
def H.laws_eqIntS (o : List Row → List Row → Option (Bool)) : Prop := ∀ (a : List Row) (b : List Row) (r : Bool), o a b = some r → call X0 31 [V.d (D.sl false 1 a), V.d (D.sl false 1 b)] [] = some ([[D.bool r]], [])
def P.laws_eqIntS (o : List Row → List Row → Option (Bool)) (q : List V → List Cell → Res (List Row × List Cell)) (a : List V) (c : List Cell) : Res (List Row × List Cell) := match a, c with
  | [V.d (D.sl false 1 a), V.d (D.sl false 1 b)], [] => ⟨Bool, o a b, fun r => ([[D.bool r]], [])⟩
  | a, c => q a c
theorem P.laws_eqIntS_ok {o : List Row → List Row → Option (Bool)} {q : List V → List Cell → Res (List Row × List Cell)} (h : H.laws_eqIntS o) (hq : FnOk X0 31 q) : FnOk X0 31 (P.laws_eqIntS o q) := by
  intro a c r hr
  unfold P.laws_eqIntS at hr
  split at hr
  · obtain ⟨x, hx, rfl⟩ := Res.val_some hr
    exact h _ _ x hx
  · exact hq _ _ _ hr
noncomputable def M.laws_eqIntS_l4_C {R : Type} (a : List Row) (b : List Row) (s : Int) (kn : Int → Option R) (ke : (Unit) ⊕ (Int) → Option R) : Option R := match s with
  | i =>
    bif decide (i < (↑a.length : Int)) then
     ((idx a i).bind fun row482 =>
      ((cInt IntKind.i64 row482 0).bind fun n483 =>
       ((idx b i).bind fun row484 =>
        ((cInt IntKind.i64 row484 0).bind fun n485 => (bif n483 != n485 then (ke (.inl ())) else (kn (IntKind.i64.wrap (i + 1)))))))) else (ke (.inr i))
noncomputable def M.laws_eqIntS_l4_b (a : List Row) (b : List Row) (s : Int) : Option ((Int) ⊕ ((Unit) ⊕ (Int))) := M.laws_eqIntS_l4_C a b s (fun s => some (.inl s)) (fun t => some (.inr t))
noncomputable def M.laws_eqIntS_l4 (a : List Row) (b : List Row) (s : Int) : Option ((Unit) ⊕ (Int)) := loopM (M.laws_eqIntS_l4_b a b) s
theorem M.laws_eqIntS_l4_n {R : Type} (a : List Row) (b : List Row) (s : Int) (kn : Int → Option R) (ke : (Unit) ⊕ (Int) → Option R) : M.laws_eqIntS_l4_C a b s kn ke = (M.laws_eqIntS_l4_b a b s).bind fun r => match r with | .inl s => kn s | .inr t => ke t := by
  skip
  all_goals
    simp only [M.laws_eqIntS_l4_b, M.laws_eqIntS_l4_C, bif_bind, bind_bind, some_bind, none_bind, sumE_bind, optE_bind, letE_bind]
def A.laws_eqIntS_l4 (a : List Row) (b : List Row) : Alt (Ex × St) := .sum (.leaf (Unit) (fun t => (Ex.ret, { tm := [(4, V.d (D.bool false))], mem := [] }))) (.leaf (Int) (fun t => (Ex.exit 0, { tm := [(0, V.d (D.sl false 1 a)), (1, V.d (D.sl false 1 b)), (5, V.d (D.int IntKind.i64 t)), (14, V.d (D.bool false))], mem := [] })))
def T.laws_eqIntS_l4 (a : List Row) (b : List Row) (s : Int) : St := match s with
  | i => { tm := [(0, V.d (D.sl false 1 a)), (1, V.d (D.sl false 1 b)), (5, V.d (D.int IntKind.i64 i))], mem := [] }
noncomputable def K.laws_eqIntS_l4 : KonC := knil
noncomputable def L.laws_eqIntS_l4 : LoopC := lnil
theorem E.laws_eqIntS_l4 {R : Type} (a : List Row) (b : List Row) (s : Int) (k : Ex → St → Option R) : denC X0 (K.laws_eqIntS_l4) (L.laws_eqIntS_l4) 31 (loopCode X0.P 31 4) (T.laws_eqIntS_l4 a b s) k = M.laws_eqIntS_l4_C a b s (fun s => k .normal (T.laws_eqIntS_l4 a b s)) (fun t => (A.laws_eqIntS_l4 a b).go t fun r => k r.1 r.2) := by
  skip
  all_goals kernel_rfl
theorem LC.laws_eqIntS_l4 : loops (loopCode X0.P 31 4) = [] := by kernel_rfl
noncomputable def PL.laws_eqIntS_l4 (S : St) : ResA (Ex × St) := match S with
  | { tm := [(0, V.d (D.sl false 1 a)), (1, V.d (D.sl false 1 b)), (5, V.d (D.int IntKind.i64 i))], mem := [] } => ⟨A.laws_eqIntS_l4 a b, M.laws_eqIntS_l4 a b i⟩
  | _ => .none
theorem C.laws_eqIntS_l4 : LpOk X0 31 4 (loopCode X0.P 31 4) (PL.laws_eqIntS_l4) := by
  refine ⟨by kernel_rfl, fun S r hr => ?_⟩
  unfold PL.laws_eqIntS_l4 at hr
  split at hr
  · obtain ⟨x, hx, rfl⟩ := ResA.val_some hr
    exact lp_sound (K := K.laws_eqIntS_l4) (L := L.laws_eqIntS_l4) (b := M.laws_eqIntS_l4_b _ _) (tm := T.laws_eqIntS_l4 _ _) (tx := (A.laws_eqIntS_l4 _ _).enc) knil_ok (by rw [LC.laws_eqIntS_l4]; exact LOk.nil) (fun s => by rw [E.laws_eqIntS_l4, M.laws_eqIntS_l4_n]; congr 1; funext r; cases r <;> first | rfl | exact Alt.go_eq _ _ _) (by intro t; rcases t with t | t <;> first | (intro h; cases h) | (intro h; cases h)) hx (s := _)
  · cases hr
noncomputable def M.laws_eqIntS_C {R : Type} (a : List Row) (b : List Row) (k : Bool → Option R) : Option R :=
  bif (↑a.length : Int) != (↑b.length : Int) then (k false) else
   ((M.laws_eqIntS_l4 a b 0).bind fun u488 =>
   sumE u488 (fun t486 => (k false)) fun u489 =>
    letE u489 fun t487 => (k true))
noncomputable def M.laws_eqIntS (a : List Row) (b : List Row) : Option (Bool) := M.laws_eqIntS_C a b some
theorem M.laws_eqIntS_n {R : Type} (a : List Row) (b : List Row) (k : Bool → Option R) : M.laws_eqIntS_C a b k = (M.laws_eqIntS_C a b some).bind k := by
  simp only [M.laws_eqIntS_C, bif_bind, bind_bind, some_bind, none_bind, sumE_bind, optE_bind, letE_bind]
noncomputable def K.laws_eqIntS : KonC := knil
noncomputable def L.laws_eqIntS : LoopC := (lcons 4 (PL.laws_eqIntS_l4) lnil)
theorem E.laws_eqIntS {R : Type} (a : List Row) (b : List Row) (k : List Row → List Cell → Option R) : bodyC X0 (K.laws_eqIntS) (L.laws_eqIntS) 31 [V.d (D.sl false 1 a), V.d (D.sl false 1 b)] [] k = M.laws_eqIntS_C a b (fun r => k [[D.bool r]] []) := by kernel_rfl
theorem LC.laws_eqIntS : loops (codeOf X0.P 31) = [loopCode X0.P 31 4] := by kernel_rfl
theorem C.laws_eqIntS : H.laws_eqIntS (M.laws_eqIntS) := by
  intro a b r h
  exact fn_sound (enc := fun r => ([[D.bool r]], [])) (K := K.laws_eqIntS) (L := L.laws_eqIntS) (by kernel_rfl) knil_ok (by rw [LC.laws_eqIntS]; exact (LOk.cons (LpOk.at (C.laws_eqIntS_l4) (fun _ => rfl)) LOk.nil)) (by rw [E.laws_eqIntS, M.laws_eqIntS_n] <;> rfl) h

/-! laws_eqNode -/
def H.laws_eqNode (o : Int → Int → List UInt8 → List UInt8 → List Row → Int → Int → List UInt8 → List UInt8 → List Row → Option (Bool)) : Prop := ∀ (a : Int) (a1 : Int) (a2 : List UInt8) (a3 : List UInt8) (a4 : List Row) (b : Int) (b1 : Int) (b2 : List UInt8) (b3 : List UInt8) (b4 : List Row) (r : Bool), o a a1 a2 a3 a4 b b1 b2 b3 b4 = some r → call X0 20 [V.agg [V.d (D.int IntKind.i64 a), V.d (D.int IntKind.i64 a1), V.d (D.str a2), V.d (D.str a3), V.d (D.sl false 1 a4)], V.agg [V.d (D.int IntKind.i64 b), V.d (D.int IntKind.i64 b1), V.d (D.str b2), V.d (D.str b3), V.d (D.sl false 1 b4)]] [] = some ([[D.bool r]], [])
def P.laws_eqNode (o : Int → Int → List UInt8 → List UInt8 → List Row → Int → Int → List UInt8 → List UInt8 → List Row → Option (Bool)) (q : List V → List Cell → Res (List Row × List Cell)) (a : List V) (c : List Cell) : Res (List Row × List Cell) := match a, c with
  | [V.agg [V.d (D.int IntKind.i64 a), V.d (D.int IntKind.i64 a1), V.d (D.str a2), V.d (D.str a3), V.d (D.sl false 1 a4)], V.agg [V.d (D.int IntKind.i64 b), V.d (D.int IntKind.i64 b1), V.d (D.str b2), V.d (D.str b3), V.d (D.sl false 1 b4)]], [] => ⟨Bool, o a a1 a2 a3 a4 b b1 b2 b3 b4, fun r => ([[D.bool r]], [])⟩
  | a, c => q a c
theorem P.laws_eqNode_ok {o : Int → Int → List UInt8 → List UInt8 → List Row → Int → Int → List UInt8 → List UInt8 → List Row → Option (Bool)} {q : List V → List Cell → Res (List Row × List Cell)} (h : H.laws_eqNode o) (hq : FnOk X0 20 q) : FnOk X0 20 (P.laws_eqNode o q) := by
  intro a c r hr
  unfold P.laws_eqNode at hr
  split at hr
  · obtain ⟨x, hx, rfl⟩ := Res.val_some hr
    exact h _ _ _ _ _ _ _ _ _ _ x hx
  · exact hq _ _ _ hr
noncomputable def M.laws_eqNode_C {R : Type} (a : Int) (a1 : Int) (a2 : List UInt8) (a3 : List UInt8) (a4 : List Row) (b : Int) (b1 : Int) (b2 : List UInt8) (b3 : List UInt8) (b4 : List Row) (k : Bool → Option R) : Option R :=
  bif a != b then (k false) else
   (bif a1 != b1 then (k false) else
    (bif !a2 == b2 then (k false) else
     (bif !a3 == b3 then (k false) else ((M.laws_eqIntS a4 b4).bind fun r490 => (bif !r490 then (k false) else (k true))))))
noncomputable def M.laws_eqNode (a : Int) (a1 : Int) (a2 : List UInt8) (a3 : List UInt8) (a4 : List Row) (b : Int) (b1 : Int) (b2 : List UInt8) (b3 : List UInt8) (b4 : List Row) : Option (Bool) := M.laws_eqNode_C a a1 a2 a3 a4 b b1 b2 b3 b4 some
theorem M.laws_eqNode_n {R : Type} (a : Int) (a1 : Int) (a2 : List UInt8) (a3 : List UInt8) (a4 : List Row) (b : Int) (b1 : Int) (b2 : List UInt8) (b3 : List UInt8) (b4 : List Row) (k : Bool → Option R) : M.laws_eqNode_C a a1 a2 a3 a4 b b1 b2 b3 b4 k = (M.laws_eqNode_C a a1 a2 a3 a4 b b1 b2 b3 b4 some).bind k := by
  simp only [M.laws_eqNode_C, bif_bind, bind_bind, some_bind, none_bind, sumE_bind, optE_bind, letE_bind]
noncomputable def K.laws_eqNode : KonC := (kcons 31 (P.laws_eqIntS M.laws_eqIntS pnil) knil)
noncomputable def L.laws_eqNode : LoopC := lnil
theorem E.laws_eqNode {R : Type} (a : Int) (a1 : Int) (a2 : List UInt8) (a3 : List UInt8) (a4 : List Row) (b : Int) (b1 : Int) (b2 : List UInt8) (b3 : List UInt8) (b4 : List Row) (k : List Row → List Cell → Option R) : bodyC X0 (K.laws_eqNode) (L.laws_eqNode) 20 [V.agg [V.d (D.int IntKind.i64 a), V.d (D.int IntKind.i64 a1), V.d (D.str a2), V.d (D.str a3), V.d (D.sl false 1 a4)], V.agg [V.d (D.int IntKind.i64 b), V.d (D.int IntKind.i64 b1), V.d (D.str b2), V.d (D.str b3), V.d (D.sl false 1 b4)]] [] k = M.laws_eqNode_C a a1 a2 a3 a4 b b1 b2 b3 b4 (fun r => k [[D.bool r]] []) := by kernel_rfl
theorem LC.laws_eqNode : loops (codeOf X0.P 20) = [] := by kernel_rfl
theorem C.laws_eqNode : H.laws_eqNode (M.laws_eqNode) := by
  intro a a1 a2 a3 a4 b b1 b2 b3 b4 r h
  exact fn_sound (enc := fun r => ([[D.bool r]], [])) (K := K.laws_eqNode) (L := L.laws_eqNode) (by kernel_rfl) (kcons_ok (P.laws_eqIntS_ok C.laws_eqIntS pnil_ok) knil_ok) (by rw [LC.laws_eqNode]; exact LOk.nil) (by rw [E.laws_eqNode, M.laws_eqNode_n] <;> rfl) h

/-! laws_eqNodeS -/
def H.laws_eqNodeS (o : List Row → List Row → Option (Bool)) : Prop := ∀ (a : List Row) (b : List Row) (r : Bool), o a b = some r → call X0 11 [V.d (D.sl false 5 a), V.d (D.sl false 5 b)] [] = some ([[D.bool r]], [])
def P.laws_eqNodeS (o : List Row → List Row → Option (Bool)) (q : List V → List Cell → Res (List Row × List Cell)) (a : List V) (c : List Cell) : Res (List Row × List Cell) := match a, c with
  | [V.d (D.sl false 5 a), V.d (D.sl false 5 b)], [] => ⟨Bool, o a b, fun r => ([[D.bool r]], [])⟩
  | a, c => q a c
theorem P.laws_eqNodeS_ok {o : List Row → List Row → Option (Bool)} {q : List V → List Cell → Res (List Row × List Cell)} (h : H.laws_eqNodeS o) (hq : FnOk X0 11 q) : FnOk X0 11 (P.laws_eqNodeS o q) := by
  intro a c r hr
  unfold P.laws_eqNodeS at hr
  split at hr
  · obtain ⟨x, hx, rfl⟩ := Res.val_some hr
    exact h _ _ x hx
  · exact hq _ _ _ hr
noncomputable def M.laws_eqNodeS_l4_C {R : Type} (a : List Row) (b : List Row) (s : Int) (kn : Int → Option R) (ke : (Unit) ⊕ (Int) → Option R) : Option R := match s with
  | i =>
    bif decide (i < (↑a.length : Int)) then
     ((idx a i).bind fun row470 =>
      ((cInt IntKind.i64 row470 0).bind fun n471 =>
       ((cInt IntKind.i64 row470 1).bind fun n472 =>
        ((cStr row470 2).bind fun s473 =>
         ((cStr row470 3).bind fun s474 =>
          ((cSl 1 row470 4).bind fun rows475 =>
           ((idx b i).bind fun row476 =>
            ((cInt IntKind.i64 row476 0).bind fun n477 =>
             ((cInt IntKind.i64 row476 1).bind fun n478 =>
              ((cStr row476 2).bind fun s479 =>
               ((cStr row476 3).bind fun s480 =>
                ((cSl 1 row476 4).bind fun rows481 =>
                 ((M.laws_eqNode n471 n472 s473 s474 rows475 n477 n478 s479 s480 rows481).bind fun r491 => (bif !r491 then (ke (.inl ())) else (kn (IntKind.i64.wrap (i + 1))))))))))))))))) else (ke (.inr i))
noncomputable def M.laws_eqNodeS_l4_b (a : List Row) (b : List Row) (s : Int) : Option ((Int) ⊕ ((Unit) ⊕ (Int))) := M.laws_eqNodeS_l4_C a b s (fun s => some (.inl s)) (fun t => some (.inr t))
noncomputable def M.laws_eqNodeS_l4 (a : List Row) (b : List Row) (s : Int) : Option ((Unit) ⊕ (Int)) := loopM (M.laws_eqNodeS_l4_b a b) s
theorem M.laws_eqNodeS_l4_n {R : Type} (a : List Row) (b : List Row) (s : Int) (kn : Int → Option R) (ke : (Unit) ⊕ (Int) → Option R) : M.laws_eqNodeS_l4_C a b s kn ke = (M.laws_eqNodeS_l4_b a b s).bind fun r => match r with | .inl s => kn s | .inr t => ke t := by
  skip
  all_goals
    simp only [M.laws_eqNodeS_l4_b, M.laws_eqNodeS_l4_C, bif_bind, bind_bind, some_bind, none_bind, sumE_bind, optE_bind, letE_bind]
def A.laws_eqNodeS_l4 (a : List Row) (b : List Row) : Alt (Ex × St) := .sum (.leaf (Unit) (fun t => (Ex.ret, { tm := [(4, V.d (D.bool false))], mem := [] }))) (.leaf (Int) (fun t => (Ex.exit 0, { tm := [(0, V.d (D.sl false 5 a)), (1, V.d (D.sl false 5 b)), (5, V.d (D.int IntKind.i64 t)), (14, V.d (D.bool false))], mem := [] })))
def T.laws_eqNodeS_l4 (a : List Row) (b : List Row) (s : Int) : St := match s with
  | i => { tm := [(0, V.d (D.sl false 5 a)), (1, V.d (D.sl false 5 b)), (5, V.d (D.int IntKind.i64 i))], mem := [] }
noncomputable def K.laws_eqNodeS_l4 : KonC := (kcons 20 (P.laws_eqNode M.laws_eqNode pnil) knil)
noncomputable def L.laws_eqNodeS_l4 : LoopC := lnil
theorem E.laws_eqNodeS_l4 {R : Type} (a : List Row) (b : List Row) (s : Int) (k : Ex → St → Option R) : denC X0 (K.laws_eqNodeS_l4) (L.laws_eqNodeS_l4) 11 (loopCode X0.P 11 4) (T.laws_eqNodeS_l4 a b s) k = M.laws_eqNodeS_l4_C a b s (fun s => k .normal (T.laws_eqNodeS_l4 a b s)) (fun t => (A.laws_eqNodeS_l4 a b).go t fun r => k r.1 r.2) := by
  skip
  all_goals kernel_rfl
theorem LC.laws_eqNodeS_l4 : loops (loopCode X0.P 11 4) = [] := by kernel_rfl
noncomputable def PL.laws_eqNodeS_l4 (S : St) : ResA (Ex × St) := match S with
  | { tm := [(0, V.d (D.sl false 5 a)), (1, V.d (D.sl false 5 b)), (5, V.d (D.int IntKind.i64 i))], mem := [] } => ⟨A.laws_eqNodeS_l4 a b, M.laws_eqNodeS_l4 a b i⟩
  | _ => .none
theorem C.laws_eqNodeS_l4 : LpOk X0 11 4 (loopCode X0.P 11 4) (PL.laws_eqNodeS_l4) := by
  refine ⟨by kernel_rfl, fun S r hr => ?_⟩
  unfold PL.laws_eqNodeS_l4 at hr
  split at hr
  · obtain ⟨x, hx, rfl⟩ := ResA.val_some hr
    exact lp_sound (K := K.laws_eqNodeS_l4) (L := L.laws_eqNodeS_l4) (b := M.laws_eqNodeS_l4_b _ _) (tm := T.laws_eqNodeS_l4 _ _) (tx := (A.laws_eqNodeS_l4 _ _).enc) (kcons_ok (P.laws_eqNode_ok C.laws_eqNode pnil_ok) knil_ok) (by rw [LC.laws_eqNodeS_l4]; exact LOk.nil) (fun s => by rw [E.laws_eqNodeS_l4, M.laws_eqNodeS_l4_n]; congr 1; funext r; cases r <;> first | rfl | exact Alt.go_eq _ _ _) (by intro t; rcases t with t | t <;> first | (intro h; cases h) | (intro h; cases h)) hx (s := _)
  · cases hr
noncomputable def M.laws_eqNodeS_C {R : Type} (a : List Row) (b : List Row) (k : Bool → Option R) : Option R :=
  bif (↑a.length : Int) != (↑b.length : Int) then (k false) else
   ((M.laws_eqNodeS_l4 a b 0).bind fun u494 =>
   sumE u494 (fun t492 => (k false)) fun u495 =>
    letE u495 fun t493 => (k true))
noncomputable def M.laws_eqNodeS (a : List Row) (b : List Row) : Option (Bool) := M.laws_eqNodeS_C a b some
theorem M.laws_eqNodeS_n {R : Type} (a : List Row) (b : List Row) (k : Bool → Option R) : M.laws_eqNodeS_C a b k = (M.laws_eqNodeS_C a b some).bind k := by
  simp only [M.laws_eqNodeS_C, bif_bind, bind_bind, some_bind, none_bind, sumE_bind, optE_bind, letE_bind]
noncomputable def K.laws_eqNodeS : KonC := knil
noncomputable def L.laws_eqNodeS : LoopC := (lcons 4 (PL.laws_eqNodeS_l4) lnil)
theorem E.laws_eqNodeS {R : Type} (a : List Row) (b : List Row) (k : List Row → List Cell → Option R) : bodyC X0 (K.laws_eqNodeS) (L.laws_eqNodeS) 11 [V.d (D.sl false 5 a), V.d (D.sl false 5 b)] [] k = M.laws_eqNodeS_C a b (fun r => k [[D.bool r]] []) := by kernel_rfl
theorem LC.laws_eqNodeS : loops (codeOf X0.P 11) = [loopCode X0.P 11 4] := by kernel_rfl
theorem C.laws_eqNodeS : H.laws_eqNodeS (M.laws_eqNodeS) := by
  intro a b r h
  exact fn_sound (enc := fun r => ([[D.bool r]], [])) (K := K.laws_eqNodeS) (L := L.laws_eqNodeS) (by kernel_rfl) knil_ok (by rw [LC.laws_eqNodeS]; exact (LOk.cons (LpOk.at (C.laws_eqNodeS_l4) (fun _ => rfl)) LOk.nil)) (by rw [E.laws_eqNodeS, M.laws_eqNodeS_n] <;> rfl) h

/-! laws_FnExactItemsOf -/
def H.laws_FnExactItemsOf (o : List Row → Option (Bool)) : Prop := ∀ (aL : List Row) (r : Bool), o aL = some r → call X0 4 [V.d (D.sl false 5 aL)] [] = some ([[D.bool r]], [])
def P.laws_FnExactItemsOf (o : List Row → Option (Bool)) (q : List V → List Cell → Res (List Row × List Cell)) (a : List V) (c : List Cell) : Res (List Row × List Cell) := match a, c with
  | [V.d (D.sl false 5 aL)], [] => ⟨Bool, o aL, fun r => ([[D.bool r]], [])⟩
  | a, c => q a c
theorem P.laws_FnExactItemsOf_ok {o : List Row → Option (Bool)} {q : List V → List Cell → Res (List Row × List Cell)} (h : H.laws_FnExactItemsOf o) (hq : FnOk X0 4 q) : FnOk X0 4 (P.laws_FnExactItemsOf o q) := by
  intro a c r hr
  unfold P.laws_FnExactItemsOf at hr
  split at hr
  · obtain ⟨x, hx, rfl⟩ := Res.val_some hr
    exact h _ x hx
  · exact hq _ _ _ hr
noncomputable def M.laws_FnExactItemsOf_C {R : Type} (aL : List Row) (k : Bool → Option R) : Option R :=
  (M.laws_szNodeS aL 1048576).bind fun r12 =>
   (bif decide (r12 < 0) then (k true) else
    ((M.laws_toNodeS aL).bind fun r29 =>
     ((M.spec_ItemsOf (fzRows r29)).bind fun r281 =>
      ((M.laws_toNodeS aL).bind fun r282 =>
       ((M.impl_ItemsOf (fzRows r282)).bind fun r468 =>
        (bif r468 != r281 then (k false) else
         ((M.laws_toNodeS aL).bind fun r469 =>
          ((M.laws_eqNodeS (fzRows r282) (fzRows r469)).bind fun r496 => (bif !r496 then (k false) else (k true))))))))))
noncomputable def M.laws_FnExactItemsOf (aL : List Row) : Option (Bool) := M.laws_FnExactItemsOf_C aL some
theorem M.laws_FnExactItemsOf_n {R : Type} (aL : List Row) (k : Bool → Option R) : M.laws_FnExactItemsOf_C aL k = (M.laws_FnExactItemsOf_C aL some).bind k := by
  simp only [M.laws_FnExactItemsOf_C, bif_bind, bind_bind, some_bind, none_bind, sumE_bind, optE_bind, letE_bind]
noncomputable def K.laws_FnExactItemsOf : KonC := (kcons 7 (P.laws_szNodeS M.laws_szNodeS pnil) (kcons 9 (P.laws_toNodeS M.laws_toNodeS pnil) (kcons 8 (P.spec_ItemsOf M.spec_ItemsOf pnil) (kcons 10 (P.impl_ItemsOf M.impl_ItemsOf pnil) (kcons 11 (P.laws_eqNodeS M.laws_eqNodeS pnil) knil)))))
noncomputable def L.laws_FnExactItemsOf : LoopC := lnil
theorem E.laws_FnExactItemsOf {R : Type} (aL : List Row) (k : List Row → List Cell → Option R) : bodyC X0 (K.laws_FnExactItemsOf) (L.laws_FnExactItemsOf) 4 [V.d (D.sl false 5 aL)] [] k = M.laws_FnExactItemsOf_C aL (fun r => k [[D.bool r]] []) := by kernel_rfl
theorem LC.laws_FnExactItemsOf : loops (codeOf X0.P 4) = [] := by kernel_rfl
theorem C.laws_FnExactItemsOf : H.laws_FnExactItemsOf (M.laws_FnExactItemsOf) := by
  intro aL r h
  exact fn_sound (enc := fun r => ([[D.bool r]], [])) (K := K.laws_FnExactItemsOf) (L := L.laws_FnExactItemsOf) (by kernel_rfl) (kcons_ok (P.laws_szNodeS_ok C.laws_szNodeS pnil_ok) (kcons_ok (P.laws_toNodeS_ok C.laws_toNodeS pnil_ok) (kcons_ok (P.spec_ItemsOf_ok C.spec_ItemsOf pnil_ok) (kcons_ok (P.impl_ItemsOf_ok C.impl_ItemsOf pnil_ok) (kcons_ok (P.laws_eqNodeS_ok C.laws_eqNodeS pnil_ok) knil_ok))))) (by rw [LC.laws_FnExactItemsOf]; exact LOk.nil) (by rw [E.laws_FnExactItemsOf, M.laws_FnExactItemsOf_n] <;> rfl) h


end Go.Proofs.YtodbelembghegaaDoor
