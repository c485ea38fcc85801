/-
  The law on Merge in plain Lean.
-/
import Derived.Test.YtodbelembghegaaGreatDoorZSubst
namespace Go.Proofs.YtodbelembghegaaGreatDoor
set_option linter.unusedVariables false
set_option linter.unusedSimpArgs false
open Go Go.Vm

theorem spec_starts_tn {T : Tn} {o : Bool} (hT : T.size ≤ 1048576) : M.spec_l6Starts (encNs o (T.flat 0)) = some (encI (T.sts 0), true) := by
  have h := starts_out_ok (T.flat 0) o (by rw [T.flat_length]; omega) (fun n hn => by have := (flat_kids T 0 n hn).1; omega) (T.flat 0) 0 [] rfl rfl (Nat.zero_le _) okSt_nil
  rw [nat0, tree_starts] at h
  have e : encI ([] : List Int) = [] := rfl
  rw [e] at h
  simp only [M.spec_l6Starts, M.spec_l6Starts_C]
  rw [h, some_bind]
  simp only [sumE, letE, flat_encI, cond_true]
theorem part_tn {T t : Tn} {o : Bool} {b : Nat} (hT : T.size ≤ 1048576) (h : Lies (T.flat 0) b t) : M.spec_l6Part (encNs o (T.flat 0)) ((b + sizes t.kids : Nat) : Int) = some (encNs true (t.flat 0)) := by
  have hlt := h.lt
  rw [T.flat_length] at hlt
  have hs := t.size_kids
  have hst := h.sts rfl
  rw [show b + t.size - 1 = b + sizes t.kids by omega] at hst
  have hg : idx (encI (T.sts 0)) ((b + sizes t.kids : Nat) : Int) = some [D.int .i64 (b : Int)] := by rw [idx_nat, get_encI, hst]; rfl
  have hg2 : (encI (T.sts 0))[(((b + sizes t.kids : Nat) : Int)).toNat]? = some [D.int .i64 (b : Int)] := by rw [Int.toNat_natCast, get_encI, hst]; rfl
  have hw : IntKind.i64.wrap (((b + sizes t.kids : Nat) : Int) + 1) = ((b + t.size : Nat) : Int) := by rw [wrap_ok (by omega) (by omega)]; omega
  have hcut : cut (encNs o (T.flat 0)) (b : Int) ((b + t.size : Nat) : Int) = some (encNs o (t.flat b)) := by
    unfold cut
    have hc : (decide (0 ≤ (b : Int)) && decide ((b : Int) ≤ ((b + t.size : Nat) : Int)) && decide (((b + t.size : Nat) : Int) ≤ ((encNs o (T.flat 0)).length : Int))) = true := by
      rw [encNs_length, T.flat_length]
      simp only [Bool.and_eq_true, decide_eq_true_eq]
      omega
    rw [hc, cond_true, Int.toNat_natCast, Int.toNat_natCast, show b + t.size - b = t.size by omega]
    have := h.part
    congr 1
    rw [← this]
    simp [encNs, List.map_drop, List.map_take]
  have hw2 : IntKind.i64.wrap (0 - (b : Int)) = 0 - (b : Int) := wrap_ok (by omega) (by omega)
  have hsh : M.spec_l6Shift (encNs o (t.flat b)) (0 - (b : Int)) = some (encNs true (t.flat 0)) := by
    rw [shift_ok (t.flat b) o _ (by rw [t.flat_length]; omega) (fun n hn => ?_)]
    · rw [t.flat_by b 0]
      rfl
    · obtain ⟨h1, h2⟩ := flat_kids t b n hn
      refine ⟨by omega, fun e he => ?_⟩
      have := h2 e he
      omega
  simp only [M.spec_l6Part, M.spec_l6Part_C, spec_starts_tn hT, some_bind, hg, hg2, cI0, hw, hcut, hw2, hsh]
theorem root_row {T : Tn} {o : Bool} (hT : T.size ≤ 1048576) : idx (encNs o (T.flat 0)) (IntKind.i64.wrap (((encNs o (T.flat 0)).length : Int) - 1)) = some (encN o ⟨T.kind, T.op, T.text, T.other, ends T.kids 0⟩) := by
  have hs := T.size_kids
  have hr := (Lies.root' (Lies.whole T))
  rw [Nat.zero_add] at hr
  rw [encNs_length, T.flat_length, wrap_ok (by omega) (by omega), show (T.size : Int) - 1 = ((sizes T.kids : Nat) : Int) by omega, idx_nat, get_encNs, hr]
  rfl
theorem items_tn {T : Tn} {o : Bool} (hT : T.size ≤ 1048576) : M.spec_l45Items (encNs o (T.flat 0)) = some (T.kids.map fun t => [D.sl true 5 (encNs true (t.flat 0))]) := by
  have hs := T.size_kids
  have hkl := sizes_le T.kids
  simp only [M.spec_l45Items, M.spec_l45Items_C, root_row hT, some_bind, cN4]
  have hloop := loopM_run (b := M.spec_l45Items_l4_b (encNs o (T.flat 0)) (encI (ends T.kids 0))) (t := ((T.kids.length : Int), T.kids.map fun t => [D.sl true 5 (encNs true (t.flat 0))]))
    (fun j => ((j : Int), (T.kids.take j).map fun t => [D.sl true 5 (encNs true (t.flat 0))])) T.kids.length
    (by
      intro j hj
      obtain ⟨t, ht⟩ : ∃ t, T.kids[j]? = some t := ⟨T.kids[j], by simp [hj]⟩
      have he := ends_at (b := 0) ht
      have hl : Lies (T.flat 0) (0 + sizes (T.kids.take j)) t := by
        have h := Lies.whole T
        cases T
        exact Lies.at_kid h ht
      have hp := part_tn (o := o) hT hl
      simp only [M.spec_l45Items_l4_b, M.spec_l45Items_l4_C, encI_length, ends_length, idx_nat, get_encI, he, Option.map_some, some_bind, cI0, hp, List.length_map, List.length_take, List.length_singleton]
      rw [decide_eq_true (by omega), cond_true, ble_ok (by omega), cond_true, ble_ok (by omega), cond_true, wrap_ok (by omega) (by omega), take_succ_get ht]
      simp)
    (by
      simp only [M.spec_l45Items_l4_b, M.spec_l45Items_l4_C, encI_length, ends_length]
      rw [decide_eq_false (by omega), cond_false, List.take_length]) 0 (Nat.zero_le _)
  rw [nat0, List.take_zero, List.map_nil] at hloop
  rw [M.spec_l45Items_l4, hloop, some_bind]
theorem concat_tn (ka kb : List Tn) (ha : ka.length ≤ 400) (hb : kb.length ≤ 400) : M.slices_Concat [[D.sl false 5 (rowsT false ka)], [D.sl false 5 (rowsT false kb)]] = some (rowsT false (ka ++ kb)) := by
  have i0 : idx [[D.sl false 5 (rowsT false ka)], [D.sl false 5 (rowsT false kb)]] 0 = some [D.sl false 5 (rowsT false ka)] := rfl
  have i1 : idx [[D.sl false 5 (rowsT false ka)], [D.sl false 5 (rowsT false kb)]] 1 = some [D.sl false 5 (rowsT false kb)] := rfl
  have c0 : cSl 5 [D.sl false 5 (rowsT false ka)] 0 = some (rowsT false ka) := rfl
  have c1 : cSl 5 [D.sl false 5 (rowsT false kb)] 0 = some (rowsT false kb) := rfl
  have l1 : M.slices_Concat_l3 [[D.sl false 5 (rowsT false ka)], [D.sl false 5 (rowsT false kb)]] [[D.sl false 5 (rowsT false ka)], [D.sl false 5 (rowsT false kb)]] 2 (0, 0) = some ((ka.length : Int) + kb.length, 2) := by
    rw [M.slices_Concat_l3]
    rw [loopM_next (s' := ((ka.length : Int), 1)), loopM_next (s' := ((ka.length : Int) + kb.length, 2))]
    · apply loopM_end
      simp only [M.slices_Concat_l3_b, M.slices_Concat_l3_C]
      rfl
    · simp only [M.slices_Concat_l3_b, M.slices_Concat_l3_C, i1, some_bind, c1, rowsT_length]
      rw [wrap_ok (by omega) (by omega), decide_eq_false (show ¬ ((ka.length : Int) + kb.length < 0) by omega)]
      rfl
    · simp only [M.slices_Concat_l3_b, M.slices_Concat_l3_C, i0, some_bind, c0, rowsT_length]
      rw [wrap_ok (by omega) (by omega), decide_eq_false (show ¬ ((0 : Int) + ka.length < 0) by omega), Int.zero_add]
      rfl
  have l2 : M.slices_Concat_l11 [[D.sl false 5 (rowsT false ka)], [D.sl false 5 (rowsT false kb)]] 2 (0, []) = some (2, rowsT false (ka ++ kb)) := by
    rw [M.slices_Concat_l11]
    rw [loopM_next (s' := (1, rowsT false ka)), loopM_next (s' := (2, rowsT false (ka ++ kb)))]
    · apply loopM_end
      simp only [M.slices_Concat_l11_b, M.slices_Concat_l11_C]
      rfl
    · simp only [M.slices_Concat_l11_b, M.slices_Concat_l11_C, i1, some_bind, c1, fz_rowsT, rowsT_length]
      rw [ble_ok (by omega), cond_true, ble_ok (by omega), cond_true, rowsT_append]
      rfl
    · simp only [M.slices_Concat_l11_b, M.slices_Concat_l11_C, i0, some_bind, c0, fz_rowsT, rowsT_length, List.length_nil]
      rw [ble_ok (by omega), cond_true, ble_ok (by omega), cond_true, List.nil_append]
      rfl
  have hg : M.slices_Grow ((ka.length : Int) + kb.length) = some [] := by
    rw [M.slices_Grow, decide_eq_true (by omega), decide_eq_true (by omega)]; rfl
  have hl : (([[D.sl false 5 (rowsT false ka)], [D.sl false 5 (rowsT false kb)]] : List Row).length : Int) = 2 := rfl
  simp only [M.slices_Concat, M.slices_Concat_C, hl, l1, some_bind, hg, l2]
theorem programOk_tree {l : List Nd} (h : programOk l = true) : treeOk l = true := by
  unfold programOk at h
  rw [Bool.and_eq_true] at h
  exact h.1
theorem sml_kids : ∀ {t : Tn}, sml t → smls t.kids
  | .mk _ _ _ _ _, h => by rw [sml] at h; exact h.2
theorem smls_append : ∀ {a b : List Tn}, smls a → smls b → smls (a ++ b)
  | [], _, _, h => h
  | t :: a, b, h, k => by
    rw [smls] at h
    rw [List.cons_append, smls]
    exact ⟨h.1, smls_append h.2 k⟩
theorem Merge_ok {a b : List Nd} (ha : Ok a) (hb : Ok b) : ∃ r q, Ok r ∧ M.spec_Merge (encNs false a) (encNs false b) = some (encNs true r, q) ∧ M.impl_Merge (encNs false a) (encNs false b) = some (encNs true r, q) := by
  have a1 := spec_ProgramOk_ok a false (by have := ha.len; omega) ha.k ha.sm
  have a2 := impl_ProgramOk_ok a false (by have := ha.len; omega) ha.k ha.sm
  have a3 := spec_ProgramOk_ok b false (by have := hb.len; omega) hb.k hb.sm
  have a4 := impl_ProgramOk_ok b false (by have := hb.len; omega) hb.k hb.sm
  have hnil : Ok [] := ⟨by simp, by simp, by simp, by simp [wK]⟩
  have e0 : encNs true [] = [] := rfl
  simp only [M.spec_Merge, M.spec_Merge_C, M.impl_Merge, M.impl_Merge_C, a1, a2, a3, a4, some_bind]
  cases pa : programOk a with
  | false => exact ⟨[], false, hnil, rfl, rfl⟩
  | true =>
    cases pb : programOk b with
    | false => exact ⟨[], false, hnil, rfl, rfl⟩
    | true =>
      obtain ⟨A, rfl, hAs⟩ := shape_tree (treeOk_shape (programOk_tree pa))
      obtain ⟨B, rfl, hBs⟩ := shape_tree (treeOk_shape (programOk_tree pb))
      have hsA := A.size_kids
      have hsB := B.size_kids
      have hkA := sizes_le A.kids
      have hkB := sizes_le B.kids
      have b1 := items_tn (T := A) (o := false) (by omega)
      have b2 := items_tn (T := B) (o := false) (by omega)
      have b3 := rootOf_tn (t := A) (o := false) (by omega)
      have b4 := rootOf_tn (t := B) (o := false) (by omega)
      have hsz : sizes (A.kids ++ B.kids) ≤ 800 := by rw [sizes_append]; omega
      have b5 := make_ok 45 0 [] [] [] (A.kids ++ B.kids) (by omega)
      have hT : (Tn.mk 45 0 [] [] (A.kids ++ B.kids)).size ≤ 801 := by rw [Tn.size]; omega
      have hparts : fzRows ((A.kids.map fun t => [D.sl true 5 (encNs true (t.flat 0))]) ++ (B.kids.map fun t => [D.sl true 5 (encNs true (t.flat 0))])) = parts (A.kids ++ B.kids) := by
        rw [← List.map_append, fz_parts]
      have hfz : fzRows [[D.sl true 5 (rowsT true A.kids)], [D.sl true 5 (rowsT true B.kids)]] = [[D.sl false 5 (rowsT false A.kids)], [D.sl false 5 (rowsT false B.kids)]] := by
        simp only [fzRows, fzRow, D.fz, fz_rowsT]
      have b6 := concat_tn A.kids B.kids (by omega) (by omega)
      have hok : Ok ((Tn.mk 45 0 [] [] (A.kids ++ B.kids)).flat 0) := ok_flat (by omega) (by
        rw [sml]
        exact ⟨⟨by simp, by simp⟩, smls_append (sml_kids ((sml_iff A 0).2 ha.sm)) (sml_kids ((sml_iff B 0).2 hb.sm))⟩)
      have b7 : M.impl_tree_list 45 0 [] [] (rowsT false (A.kids ++ B.kids)) = some (encNs true ((Tn.mk 45 0 [] [] (A.kids ++ B.kids)).flat 0)) := list_tn (t := Tn.mk 45 0 [] [] (A.kids ++ B.kids)) (w := false) (by omega)
      have b8 := spec_TreeOk_ok _ false (by have := hok.len; omega) hok.k hok.sm
      have b9 := impl_TreeOk_ok _ false (by have := hok.len; omega) hok.k hok.sm
      generalize Tn.mk 45 0 [] [] (A.kids ++ B.kids) = T at *
      simp only [Bool.not_true, cond_false, b1, b2, b3, b4, some_bind, List.length_map, hparts, b5, pure_oneN, cond_true, fz_encNs, hfz, b6, fz_rowsT, b7, b8, b9]
      rw [ble_ok (by omega), cond_true, ble_ok (by omega), cond_true]
      cases treeOk (T.flat 0) with
      | false => exact ⟨[], false, hnil, rfl, rfl⟩
      | true => exact ⟨T.flat 0, true, hok, rfl, rfl⟩
theorem law_Merge (l xs : List Nd) (hl : l.length ≤ maxLen) (hf : ∀ n, n ∈ l → Fit n) (hxl : xs.length ≤ maxLen) (hxf : ∀ n, n ∈ xs → Fit n) :
    M.laws_FnExactMerge (encNs false l) (encNs false xs) = some true := by
  simp only [M.laws_FnExactMerge, M.laws_FnExactMerge_C]
  rw [szNodeS_ok l false 1048576 (by omega) (by omega) hl hf, some_bind]
  by_cases hs : (l.length + wNs l : Int) ≤ 1048576
  · rw [if_pos hs, decide_eq_false (by omega), cond_false, szNodeS_ok xs false _ (by omega) (by omega) hxl hxf, some_bind]
    by_cases hs2 : (xs.length + wNs xs : Int) ≤ 1048576 - l.length - wNs l
    · rw [if_pos hs2, decide_eq_false (by omega), cond_false]
      have hkk : ∀ {l : List Nd}, (l.length + wNs l : Int) ≤ 1048576 → ∀ n, n ∈ l → n.kids.length ≤ 1048576 := by
        intro l hs n hn
        have h1 := wNs_mem hn
        have h2 : wN n = n.text.length + n.other.length + n.kids.length := rfl
        omega
      have ol : Ok l := ok_of hs hf (by omega) (hkk hs)
      have ox : Ok xs := ok_of (by omega) hxf (by omega) (hkk (by omega))
      obtain ⟨r, b, hr, h1, h2⟩ := Merge_ok ol ox
      have a1 := toNodeS_ok l false ol.len ol.k
      have a2 := toNodeS_ok xs false ox.len ox.k
      have a3 := eqNodeS_same r false false (by unfold maxLen; have := hr.len; omega) (fun n hn => by unfold maxLen; have := hr.k n hn; omega)
      have a4 := eqNodeS_same l false false hl (fun n hn => (hf n hn).kids)
      have a5 := eqNodeS_same xs false false hxl (fun n hn => (hxf n hn).kids)
      have a6 := markNodeS_ok 1 l (by omega) (by have := ol.w; omega)
      have a7 := markNodeS_ok (1 + wK l) xs (by omega) (by have := ol.w; have := ox.w; omega)
      have a8 := markNodeS_ok 1 r (by omega) (by have := hr.w; omega)
      have a9 := heldNodeS_ok 1 r (by omega) (by have := hr.w; omega)
      rw [fz_encNs] at a9
      have d1 : decide ((1 : Int) + (wK l : Int) + (wK xs : Int) < 0) = false := decide_eq_false (by omega)
      have d2 : decide ((1 : Int) + (wK r : Int) < 0) = false := decide_eq_false (by omega)
      have d3 : (!b == b) = false := by cases b <;> rfl
      simp only [a1, a2, fz_encNs, h1, h2, a3, a4, a5, a6, a7, a8, a9, d1, d2, d3, some_bind, pure_oneNB, cond_true, cond_false, Bool.not_true, bne_self_eq_false]
    · rw [if_neg hs2]; rfl
  · rw [if_neg hs]; rfl
end Go.Proofs.YtodbelembghegaaGreatDoor
