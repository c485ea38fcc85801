import Derived.Test.YtpcdaeebbpedoaaGreatDoorYSortF
import Derived.Test.YtpcdaeebbpedoaaGreatDoorZPart
import Derived.Test.YtpcdaeebbpedoaaGreatDoorZTreeP
import Derived.Test.YtpcdaeebbpedoaaGreatDoorZMarkN
import Derived.Test.YtpcdaeebbpedoaaGreatDoorZHeldN
import Derived.Test.YtpcdaeebbpedoaaGreatDoorZOk
namespace Go.Proofs.YtpcdaeebbpedoaaGreatDoor
set_option linter.unusedVariables false
set_option linter.unusedSimpArgs false
open Go Go.Vm
theorem gt_str (x s : List UInt8) : (!(Op.bytesLess x s || x == s)) = decide (s < x) := by
  rw [Go.Proofs.bytesLess_eq]
  by_cases h : x < s
  · rw [decide_eq_true h, decide_eq_false (fun k => List.lt_irrefl _ (List.lt_trans h k))]; rfl
  · by_cases h2 : s < x
    · rw [decide_eq_false h, decide_eq_true h2]
      have : (x == s) = false := by
        rw [beq_eq_false_iff_ne]
        intro e
        subst e
        exact h h2
      rw [this]; rfl
    · have e : x = s := List.le_antisymm (List.not_lt.1 h2) (List.not_lt.1 h)
      subst e
      rw [decide_eq_false h]
      simp
section
variable (tt : Nat → Tn)
def encS (k : Nat) : Row := [D.sl false 5 (encNs false ((tt k).flat 0))]
def kyS (k : Nat) : List UInt8 := bif (tt k).kind != 44 then [] else (tt k).text
variable {tt} {g : Nat → Nat} {n : Nat}
theorem key_ok (hz : ∀ k, (tt k).size ≤ 1048576) (k : Nat) : M.spec_l45Key (encNs false ((tt k).flat 0)) = some (kyS tt k) := by
  have h := root_row (T := tt k) (o := false) (hz k)
  simp only [M.spec_l45Key, M.spec_l45Key_C, h, some_bind, cN0, cN1, cN2, cN3, cN4, kyS]
  cases (tt k).kind != 44 <;> rfl
theorem roS (k : Nat) : cRo 5 (encS tt k) 0 = some (encNs false ((tt k).flat 0)) := rfl
theorem wrS (k j : Nat) : splice (encS tt k) 0 [D.sl false 5 (encNs false ((tt j).flat 0))] = encS tt j := rfl
def hol (g : Nat → Nat) (k i : Nat) : Nat → Nat := fun j => if k < j ∧ j ≤ i then g (j - 1) else g j
theorem hol_zero (g : Nat → Nat) (i : Nat) : hol g i i = g := by
  funext j
  unfold hol
  rw [if_neg (by omega)]
theorem hol_step (g : Nat → Nat) {k i : Nat} (h : 0 < k) (h2 : k ≤ i) : (fun j => if j = k then g (k - 1) else hol g k i j) = hol g (k - 1) i := by
  funext j
  unfold hol
  repeat' split
  all_goals first | rfl | (exfalso; omega) | (congr 1; omega)
theorem hol_end (g : Nat → Nat) {k i : Nat} (h2 : k ≤ i) : (fun j => if j = k then g i else hol g k i j) = mvDn g k i := by
  funext j
  unfold hol mvDn
  repeat' split
  all_goals first | rfl | (exfalso; omega) | (congr 1; omega)
theorem hol_lo (g : Nat → Nat) {x k i : Nat} (h : x ≤ k) : hol g k i x = g x := by
  unfold hol
  rw [if_neg (by omega)]
theorem hol_loop (hz : ∀ k, (tt k).size ≤ 1048576) {i : Nat} {x0 : Int} (hi : i < n) (hn : n ≤ 1000000) : ∀ (j : Nat), j ≤ i → ∃ j', j' ≤ j ∧
    M.spec_SortFuncs_l9 x0 (encNs false ((tt (g i)).flat 0)) ((j : Int), arrR (encS tt) (hol g j i) n) = some ((j' : Int), arrR (encS tt) (hol g j' i) n) ∧
    (0 < j' → kls (kyS tt) (g i) (g (j' - 1)) = false) ∧ (j' < j → kls (kyS tt) (g i) (g j') = true)
  | 0, hj => by
    refine ⟨0, Nat.le_refl _, ?_, fun h => by omega, fun h => by omega⟩
    rw [M.spec_SortFuncs_l9]
    apply loopM_end
    simp only [M.spec_SortFuncs_l9_b, M.spec_SortFuncs_l9_C]
    rw [decide_eq_false (by omega), cond_false]
  | j + 1, hj => by
    have w1 : IntKind.i64.wrap (((j + 1 : Nat) : Int) - 1) = (j : Int) := wI (by omega) (by omega)
    have g1 : (arrR (encS tt) (hol g (j + 1) i) n)[j]? = some (encS tt (g j)) := by rw [arrR_get (by omega), hol_lo g (by omega)]
    have g2 : (arrR (encS tt) (hol g (j + 1) i) n)[j + 1]? = some (encS tt (g (j + 1))) := by rw [arrR_get (by omega), hol_lo g (Nat.le_refl _)]
    have hja : decide ((((j + 1 : Nat)) : Int) > 0) = true := decide_eq_true (by omega)
    have hk : decide (kyS tt (g i) < kyS tt (g j)) = kls (kyS tt) (g i) (g j) := rfl
    cases hc : kls (kyS tt) (g i) (g j) with
    | false =>
      refine ⟨j + 1, Nat.le_refl _, ?_, fun _ => hc, fun h => by omega⟩
      rw [M.spec_SortFuncs_l9]
      apply loopM_end
      simp only [M.spec_SortFuncs_l9_b, M.spec_SortFuncs_l9_C, hja, cond_true, w1, idx_nat, Int.toNat_natCast, g1, some_bind, roS, key_ok hz, gt_str, hk, hc, cond_false]
    | true =>
      obtain ⟨j', q2, q3, q4, q5⟩ := hol_loop hz (x0 := x0) hi hn j (by omega)
      refine ⟨j', by omega, ?_, q4, fun h => ?_⟩
      · rw [M.spec_SortFuncs_l9] at q3 ⊢
        rw [loopM_next (s' := ((j : Int), arrR (encS tt) (hol g j i) n)) ?_]
        · exact q3
        · simp only [M.spec_SortFuncs_l9_b, M.spec_SortFuncs_l9_C, hja, cond_true, w1, idx_nat, Int.toNat_natCast, g1, g2, some_bind, roS, key_ok hz, gt_str, hk, hc, wrS]
          rw [arrR_set]
          have := hol_step g (k := j + 1) (i := i) (by omega) hj
          rw [Nat.add_sub_cancel] at this
          rw [this]
      · by_cases e : j' < j
        · exact q5 e
        · have : j' = j := by omega
          rw [this]; exact hc
theorem sorts_outer (hz : ∀ k, (tt k).size ≤ 1048576) (hn : n ≤ 1000000) : ∀ (d i : Nat) (g : Nat → Nat), i + d = n → Seg (kls (kyS tt)) g 0 i → (∀ k, i ≤ k → k < n → g k = k) →
    ∃ g', M.spec_SortFuncs_l5 ((i : Int), arrR (encS tt) g n) = some ((n : Int), arrR (encS tt) g' n) ∧ Same g g' 0 n ∧ Seg (kls (kyS tt)) g' 0 n
  | 0, i, g, hi, hs, hg => by
    have : i = n := by omega
    subst this
    refine ⟨g, ?_, Same.refl _ _ _, hs⟩
    rw [M.spec_SortFuncs_l5]
    apply loopM_end
    simp only [M.spec_SortFuncs_l5_b, M.spec_SortFuncs_l5_C, arrR_length]
    rw [decide_eq_false (by omega), cond_false]
  | d + 1, i, g, hi, hs, hg => by
    obtain ⟨j', q2, q3, q4, q5⟩ := hol_loop (tt := tt) (g := g) (n := n) hz (i := i) (x0 := (i : Int)) (by omega) hn i (Nat.le_refl _)
    rw [hol_zero] at q3
    have hgi := hg i (Nat.le_refl _) (by omega)
    have s1 := ins_ok (kls_ko (kyS tt)) hs hgi (Nat.zero_le _) (Nat.zero_le _) q2 q4 q5
    have s2 := mvDn_same (a := 0) (i := j') (m := i) g (Nat.zero_le _) (i - j') j' (by omega) (Nat.le_refl _)
    obtain ⟨g', r1, r2, r3⟩ := sorts_outer hz hn d (i + 1) (mvDn g j' i) (by omega) s1 (fun k h1 h2 => by
      rw [s2.out k (by omega)]; exact hg k (by omega) h2)
    refine ⟨g', ?_, (s2.wide (Nat.le_refl _) (by omega)).trans r2, r3⟩
    have w1 : IntKind.i64.wrap ((i : Int) + 1) = ((i + 1 : Nat) : Int) := wI (by omega) (by omega)
    have g1 : (arrR (encS tt) g n)[i]? = some (encS tt (g i)) := arrR_get (by omega)
    have g2 : (arrR (encS tt) (hol g j' i) n)[j']? = some (encS tt (g j')) := by rw [arrR_get (by omega), hol_lo g (Nat.le_refl _)]
    rw [M.spec_SortFuncs_l5] at r1 ⊢
    rw [loopM_next (s' := (((i + 1 : Nat) : Int), arrR (encS tt) (mvDn g j' i) n)) ?_]
    · exact r1
    · simp only [M.spec_SortFuncs_l5_b, M.spec_SortFuncs_l5_C, arrR_length, idx_nat, Int.toNat_natCast, g1, some_bind, roS, q3, g2, wrS, w1]
      rw [decide_eq_true (by omega), cond_true, arrR_set, hol_end g q2]
theorem sorts_ok (hz : ∀ k, (tt k).size ≤ 1048576) (hn : n ≤ 1000000) : ∃ (x : Int) (g : Nat → Nat), M.spec_SortFuncs_l5 (1, arrR (encS tt) (fun k => k) n) = some (x, arrR (encS tt) g n) ∧ Same (fun k => k) g 0 n ∧ Srt (kls (kyS tt)) g 0 n := by
  by_cases h : n = 0
  · subst h
    refine ⟨1, fun k => k, ?_, Same.refl _ _ _, fun p q h1 h2 h3 => by omega⟩
    rw [M.spec_SortFuncs_l5]
    apply loopM_end
    simp only [M.spec_SortFuncs_l5_b, M.spec_SortFuncs_l5_C, arrR_length]
    rw [decide_eq_false (by omega), cond_false]
  · obtain ⟨g', r1, r2, r3⟩ := sorts_outer (tt := tt) hz hn (n - 1) 1 (fun k => k) (by omega) ⟨fun p q q1 q2 q3 => by omega, fun k h1 h2 => ⟨Nat.zero_le _, h2⟩⟩ (fun k _ _ => rfl)
    exact ⟨_, g', r1, r2, r3.1⟩
end
theorem fn_text (op : Int) (o : List UInt8) (kids : List Row) (h : M.impl_FieldsOk 44 op [] o kids = some true) : False := by
  have e1 : M.impl_IsExpr 44 = some false := by decide +kernel
  have e2 : M.impl_IsStmt 44 = some false := by decide +kernel
  have e3 : M.impl_within 44 40 45 = some true := by decide +kernel
  have e4 : M.impl_NameOk [] = some false := by rw [(NameOk_ok [] (by simp)).2]; rfl
  simp only [M.impl_FieldsOk, M.impl_FieldsOk_C, e1, e2, e3, some_bind, cond_true, cond_false, M.impl_itemForm, M.impl_itemForm_C, e4] at h
  revert h
  simp
theorem items_fz {T : Tn} {o : Bool} (hT : T.size ≤ 1048576) : M.spec_l45Items (encNs o (T.flat 0)) = some (T.kids.map fun t => [D.sl false 5 (encNs false (t.flat 0))]) := by
  have hs := T.size_kids
  have hkl := sizes_le T.kids
  simp only [M.spec_l45Items, M.spec_l45Items_C, root_row hT, some_bind, cN4]
  have hloop := loopM_run (b := M.spec_l45Items_l4_b (encNs o (T.flat 0)) (encI (ends T.kids 0))) (t := ((T.kids.length : Int), T.kids.map fun t => [D.sl false 5 (encNs false (t.flat 0))]))
    (fun j => ((j : Int), (T.kids.take j).map fun t => [D.sl false 5 (encNs false (t.flat 0))])) T.kids.length
    (by
      intro j hj
      obtain ⟨t, ht⟩ : ∃ t, T.kids[j]? = some t := ⟨T.kids[j], by simp [hj]⟩
      have he := ends_at (b := 0) ht
      have hl : Lies (T.flat 0) (0 + sizes (T.kids.take j)) t := by
        have h := Lies.whole T
        cases T
        exact Lies.at_kid h ht
      have hp := part_tn (o := o) hT hl
      simp only [M.spec_l45Items_l4_b, M.spec_l45Items_l4_C, encI_length, ends_length, idx_nat, get_encI, he, Option.map_some, some_bind, cI0, hp, fz_encNs, List.length_map, List.length_take, List.length_singleton]
      rw [decide_eq_true (by omega), cond_true, ble_ok (by omega), cond_true, ble_ok (by omega), cond_true, wrap_ok (by omega) (by omega), take_succ_get ht]
      simp)
    (by
      simp only [M.spec_l45Items_l4_b, M.spec_l45Items_l4_C, encI_length, ends_length]
      rw [decide_eq_false (by omega), cond_false, List.take_length]) 0 (Nat.zero_le _)
  rw [nat0, List.take_zero, List.map_nil] at hloop
  rw [M.spec_l45Items_l4, hloop, some_bind]
def isFn (t : Tn) : Bool := t.kind == 44
theorem c4r (u : Tn) : cSl 5 (u.row false) 4 = some (rowsT false u.kids) := (rowC _ u).2.2.2.2
theorem row_mk (u : Tn) : [D.int IntKind.i64 u.kind, D.int IntKind.i64 u.op, D.str u.text, D.str u.other, D.sl false 5 (rowsT false u.kids)] = u.row false := by cases u; rfl
theorem rowsT_app (w : Bool) (a b : List Tn) : rowsT w (a ++ b) = rowsT w a ++ rowsT w b := by simp [rowsT_map]
theorem rowsT_one (w : Bool) (u : Tn) : rowsT w [u] = [u.row w] := by simp [rowsT_map]
theorem rowsT_idx (w : Bool) {ks : List Tn} {j : Nat} {u : Tn} (hj : ks[j]? = some u) : (rowsT w ks)[j]? = some (u.row w) := by rw [rowsT_map]; simp [hj]
theorem parts_loop (L : List Tn) (hL : L.length ≤ 1000000) : M.impl_SortFuncs_l5 (rowsT false L) (L.length : Int) (0, [], []) = some ((L.length : Int), rowsT false (L.filter fun t => !(isFn t)), rowsT false (L.filter isFn)) := by
  have hloop := loopM_run (b := M.impl_SortFuncs_l5_b (rowsT false L) (L.length : Int)) (t := ((L.length : Int), rowsT false (L.filter fun t => !(isFn t)), rowsT false (L.filter isFn)))
    (fun j => ((j : Int), rowsT false ((L.take j).filter fun t => !(isFn t)), rowsT false ((L.take j).filter isFn))) L.length
    (by
      intro j hj
      obtain ⟨u, hu⟩ : ∃ u, L[j]? = some u := ⟨L[j], by simp [hj]⟩
      have hix := rowsT_idx false hu
      have w1 : IntKind.i64.wrap ((j : Int) + 1) = ((j + 1 : Nat) : Int) := wI (by omega) (by omega)
      have h1 := List.length_filter_le (fun t => !(isFn t)) (L.take j)
      have h2 := List.length_filter_le isFn (L.take j)
      rw [List.length_take] at h1 h2
      simp only [M.impl_SortFuncs_l5_b, M.impl_SortFuncs_l5_C, idx_nat, Int.toNat_natCast, hix, some_bind, c0r, c1r, c2r, c3r, c4r, row_mk, w1, rowsT_length, List.length_singleton]
      rw [decide_eq_true (by omega), cond_true, take_succ_get hu, List.filter_append, List.filter_append, rowsT_app, rowsT_app]
      cases hf : u.kind == 44 with
      | true =>
        have hf' : isFn u = true := hf
        rw [cond_true, ble_ok (by omega), cond_true, ble_ok (by omega), cond_true]
        simp [hf', rowsT_one, rowsT]
      | false =>
        have hf' : isFn u = false := hf
        rw [cond_false, ble_ok (by omega), cond_true, ble_ok (by omega), cond_true]
        simp [hf', rowsT_one, rowsT])
    (by
      simp only [M.impl_SortFuncs_l5_b, M.impl_SortFuncs_l5_C]
      rw [decide_eq_false (by omega), cond_false, List.take_length]) 0 (Nat.zero_le _)
  exact hloop
theorem allP_get {α : Type} {p : Nat → α → Bool} : ∀ {l : List α} {i j : Nat} {x : α}, allP p l i = true → l[j]? = some x → p (i + j) x = true
  | [], _, j, _, _, h => by simp at h
  | y :: l, i, 0, x, h, e => by
    rw [allP, Bool.and_eq_true] at h
    cases e
    exact h.1
  | y :: l, i, j + 1, x, h, e => by
    rw [allP, Bool.and_eq_true] at h
    rw [List.getElem?_cons_succ] at e
    have := allP_get h.2 e
    rwa [show i + 1 + j = i + (j + 1) by omega] at this
theorem fn_named {l : List Nd} (hall : allP (np l) l 0 = true) (hsm : ∀ n, n ∈ l → Small n) (hkl : ∀ n, n ∈ l → n.kids.length ≤ 400) {t : Tn} {b : Nat} (h : Lies l b t) (hk : isFn t = true) : t.text ≠ [] := by
  intro e
  have hr := Lies.root' h
  have hm := List.mem_of_getElem? hr
  have hn := allP_get hall hr
  unfold np at hn
  rw [Bool.and_eq_true] at hn
  have hf := (fOk_ok (hsm _ hm) (hkl _ hm)).2
  rw [hn.1] at hf
  have e44 : t.kind = 44 := by
    unfold isFn at hk
    rwa [beq_iff_eq] at hk
  simp only [e44, e] at hf
  exact fn_text _ _ _ hf
theorem sizes_mul : ∀ ts : List Tn, (∀ t, t ∈ ts → t.size ≤ 400) → sizes ts ≤ ts.length * 400
  | [], _ => Nat.le_refl _
  | t :: ts, h => by
    have h1 := h t List.mem_cons_self
    have h2 := sizes_mul ts fun u hu => h u (List.mem_cons_of_mem _ hu)
    rw [sizes, List.length_cons, Nat.add_mul]
    omega
mutual
theorem wK_flat : ∀ (t : Tn) (b : Nat), wK (t.flat b) + 1 = 5 * t.size
  | .mk k o x y ks, b => by
    have := wK_flats ks b
    have e : wK [(⟨k, o, x, y, ends ks b⟩ : Nd)] = 4 + ks.length := by simp [wK, ends_length]
    rw [Tn.flat, wK_append, e, Tn.size]
    omega
theorem wK_flats : ∀ (ks : List Tn) (b : Nat), wK (flats ks b) + ks.length = 5 * sizes ks
  | [], _ => rfl
  | t :: ts, b => by
    have h1 := wK_flat t b
    have h2 := wK_flats ts (b + t.size)
    rw [flats, wK_append, sizes, List.length_cons]
    omega
end
def noT : Tn := .mk 0 0 [] [] []
def ttL (L : List Tn) (k : Nat) : Tn := L.getD k noT
theorem ttL_get {L : List Tn} {k : Nat} (h : k < L.length) : L[k]? = some (ttL L k) := by
  unfold ttL
  rw [List.getD_eq_getElem?_getD, List.getElem?_eq_getElem h]
  rfl
theorem range_tt (L : List Tn) : (List.range L.length).map (ttL L) = L := by
  apply List.ext_getElem?
  intro k
  by_cases h : k < L.length
  · rw [ttL_get h]
    simp [h]
  · rw [List.getElem?_eq_none (by simp; omega), List.getElem?_eq_none (by omega)]
theorem filter_tt (L : List Tn) (p : Tn → Bool) : L.filter p = (plc (fun k => p (ttL L k)) L.length).map (ttL L) := by
  have h := List.filter_map (p := p) (f := ttL L) (l := List.range L.length)
  rw [range_tt] at h
  exact h
theorem plc_range (Q : List Nat) : Q = (List.range Q.length).map fun k => Q.getD k 0 := by
  apply List.ext_getElem?
  intro k
  by_cases h : k < Q.length
  · simp [h]
  · rw [List.getElem?_eq_none (by omega), List.getElem?_eq_none (by simp; omega)]
theorem SortFuncs_ok {l : List Nd} (h : Ok l) : ∃ r : List Nd, r.length ≤ 200000 ∧ (∀ n, n ∈ r → n.kids.length ≤ 200000) ∧ wK r ≤ 1000000 ∧ M.spec_SortFuncs (encNs false l) = some (encNs true r) ∧ M.impl_SortFuncs (encNs false l) = some (encNs true r) := by
  have a1 := spec_ProgramOk_ok l false (by have := h.len; omega) h.k h.sm
  have a2 := impl_ProgramOk_ok l false (by have := h.len; omega) h.k h.sm
  simp only [M.spec_SortFuncs, M.spec_SortFuncs_C, M.impl_SortFuncs, M.impl_SortFuncs_C, a1, a2, some_bind]
  cases pa : programOk l with
  | false => exact ⟨[], by simp, by simp, by simp [wK], rfl, rfl⟩
  | true =>
    have hto := programOk_tree pa
    obtain ⟨T, rfl, hTs⟩ := shape_tree (treeOk_shape hto)
    have hks := T.size_kids
    generalize hL : T.kids = L at hks
    have hkl := sizes_le L
    have hLz : ∀ t, t ∈ L → t.size ≤ 400 := fun t ht => by have := sizes_mem ht; omega
    have hz : ∀ k, (ttL L k).size ≤ 1048576 := fun k => by
      by_cases hk : k < L.length
      · have := hLz _ (List.mem_of_getElem? (ttL_get hk)); omega
      · unfold ttL
        rw [List.getD_eq_getElem?_getD, List.getElem?_eq_none (by omega)]
        exact show (1 : Nat) ≤ 1048576 by omega
    have b1 := items_fz (T := T) (o := false) (by omega)
    rw [hL] at b1
    have e1 : (L.map fun t => [D.sl false 5 (encNs false (t.flat 0))]) = arrR (encS (ttL L)) (fun k => k) L.length := by
      conv => lhs; rw [← range_tt L]
      rw [List.map_map]
      rfl
    rw [e1] at b1
    obtain ⟨x, g, s1, s2, s3⟩ := sorts_ok (tt := ttL L) (n := L.length) hz (by omega)
    have e2 : arrR (encS (ttL L)) g L.length = (((List.range L.length).map g).map (ttL L)).map fun t => [D.sl false 5 (encNs false (t.flat 0))] := by
      rw [List.map_map, List.map_map]; rfl
    have e3 := fz_parts false false (((List.range L.length).map g).map (ttL L))
    rw [← e2] at e3
    have b2 := rootOf_tn (t := T) (o := false) (by omega)
    rw [hL] at b2
    have b3 := parts_loop L (by omega)
    let Q := plc (fun k => isFn (ttL L k)) L.length
    let tF : Nat → Tn := fun i => ttL L (Q.getD i 0)
    have hQl : Q.length ≤ L.length := by
      have := List.length_filter_le (fun k => isFn (ttL L k)) (List.range L.length)
      rw [List.length_range] at this
      exact this
    obtain ⟨p, t1, t2, t3⟩ := stable_ok (tt := tF) (n := Q.length) (by omega)
    have e4 : rowsT false (L.filter isFn) = arrR (encT' tF) (fun k => k) Q.length := by
      rw [filter_tt L isFn, rowsT_map, List.map_map]
      show Q.map _ = _
      conv => lhs; rw [plc_range Q]
      rw [List.map_map]
      rfl
    have hFN : ∀ k, k < Q.length → isFn (ttL L (Q.getD k 0)) = true := fun k hk => by
      have hm : Q.getD k 0 ∈ Q := by
        rw [List.getD_eq_getElem?_getD, List.getElem?_eq_getElem hk]
        exact List.getElem_mem hk
      exact (plc_mem.1 hm).2
    have hpl : ∀ k, k < Q.length → p k < Q.length := fun k hk => by
      obtain ⟨j, _, hj, e⟩ := t2.to k (Nat.zero_le _) hk
      rw [e]; exact hj
    have hkey : ∀ i j, i < Q.length → j < Q.length → kls (kyT tF) i j = kls (kyS (ttL L)) (Q.getD i 0) (Q.getD j 0) := fun i j hi hj => by
      have ky : ∀ k, k < Q.length → kyT tF k = kyS (ttL L) (Q.getD k 0) := fun k hk => by
        have f1 := hFN k hk
        unfold isFn at f1
        simp only [kyS, bne, f1, Bool.not_true, cond_false]
        rfl
      unfold kls
      rw [ky i hi, ky j hj]
    have t3' : Srt (fun i j => kls (kyS (ttL L)) (Q.getD i 0) (Q.getD j 0)) p 0 Q.length := fun i j q1 q2 q3 => by
      have := t3 i j q1 q2 q3
      unfold less at this ⊢
      rw [hkey _ _ (hpl i (by omega)) (hpl j q3), hkey _ _ (hpl j q3) (hpl i (by omega))] at this
      exact this
    have hall : allP (np (T.flat 0)) (T.flat 0) 0 = true := by
      unfold treeOk at hto
      rw [Bool.and_eq_true, Bool.and_eq_true] at hto
      exact hto.2.2
    have hkl4 : ∀ n, n ∈ T.flat 0 → n.kids.length ≤ 400 := fun n hn => by have := (flat_kids T 0 n hn).1; omega
    have key := parts_eq (kls_ko (kyS (ttL L))) (f := fun k => isFn (ttL L k)) (n := L.length) (g := g) (h := p)
      (fun i j hi => by
        have : kyS (ttL L) i = [] := by
          unfold isFn at hi
          simp only [kyS, bne, hi, Bool.not_false, cond_true]
        unfold kls
        rw [this]
        exact decide_eq_false (List.not_lt_nil _))
      (fun i j hi hj fi fj => by
        have h1 : kyS (ttL L) i = [] := by
          unfold isFn at fi
          simp only [kyS, bne, fi, Bool.not_false, cond_true]
        have h2 : kyS (ttL L) j = (ttL L j).text := by
          have fj' := fj
          unfold isFn at fj'
          simp only [kyS, bne, fj', Bool.not_true, cond_false]
        have hlies : Lies (T.flat 0) (0 + sizes (L.take j)) (ttL L j) := by
          have hget : T.kids[j]? = some (ttL L j) := by rw [hL]; exact ttL_get hj
          generalize ttL L j = u at hget ⊢
          rw [← hL]
          have hw := Lies.whole T
          cases T
          exact Lies.at_kid hw hget
        have h3 := fn_named hall h.sm hkl4 hlies fj
        unfold kls
        rw [h1, h2]
        cases hx : (ttL L j).text with
        | nil => exact absurd hx h3
        | cons c cs => exact decide_eq_true (List.nil_lt_cons _ _))
      s2 s3 t2 t3'
    let R := ((List.range L.length).map g).map (ttL L)
    have hR : R = (L.filter fun t => !(isFn t)) ++ ((List.range Q.length).map fun k => tF (p k)) := by
      show ((List.range L.length).map g).map (ttL L) = _
      rw [key, List.map_append, filter_tt L fun t => !(isFn t), List.map_map, List.map_map]
      rfl
    have hRl : R.length = L.length := by simp [R]
    have hRz : ∀ t, t ∈ R → t.size ≤ 400 := fun t ht => by
      obtain ⟨k, hk, rfl⟩ := List.mem_map.1 ht
      by_cases hkl : k < L.length
      · exact hLz _ (List.mem_of_getElem? (ttL_get hkl))
      · unfold ttL
        rw [List.getD_eq_getElem?_getD, List.getElem?_eq_none (by omega)]
        exact show (1 : Nat) ≤ 400 by omega
    have hRs := sizes_mul R hRz
    have hRs2 : sizes R ≤ 160000 := by
      have : R.length * 400 ≤ 400 * 400 := Nat.mul_le_mul_right _ (by omega)
      omega
    have b4 := make_ok 45 0 [] [] [] R (by omega)
    have hts : (Tn.mk 45 0 [] [] R).size = sizes R + 1 := rfl
    have b5 : M.impl_tree_list 45 0 [] [] (rowsT false R) = some (encNs true ((Tn.mk 45 0 [] [] R).flat 0)) := list_tn (t := .mk 45 0 [] [] R) (w := false) (by omega)
    have e5 : rowsT false (L.filter fun t => !(isFn t)) ++ arrR (encT' tF) p Q.length = rowsT false R := by
      rw [hR, rowsT_app]
      congr 1
      rw [rowsT_map, List.map_map]
      rfl
    have hO := List.length_filter_le (fun t => !(isFn t)) L
    refine ⟨(Tn.mk 45 0 [] [] R).flat 0, by rw [Tn.flat_length]; omega, fun n hn => by have := (flat_kids _ 0 n hn).1; omega, by have := wK_flat (.mk 45 0 [] [] R) 0; omega, ?_, ?_⟩
    · simp only [Bool.not_true, cond_false, b1, some_bind, s1, e3]
      rw [b4, some_bind, pure_oneN, cond_true]
    · simp only [Bool.not_true, cond_false, b2, some_bind, fz_rowsT, rowsT_length, b3, e4, t1, arrR_length]
      rw [ble_ok (by omega), cond_true, ble_ok (by omega), cond_true, e5, fz_rowsT, b5, some_bind, pure_oneN, cond_true]
theorem law_SortFuncs (l : List Nd) (hl : l.length ≤ maxLen) (hf : ∀ n, n ∈ l → Fit n) : M.laws_FnExactSortFuncs (encNs false l) = some true := by
  simp only [M.laws_FnExactSortFuncs, M.laws_FnExactSortFuncs_C]
  rw [szNodeS_ok l false 1048576 (by omega) (by omega) hl hf, some_bind]
  by_cases hs : (l.length + wNs l : Int) ≤ 1048576
  · rw [if_pos hs, decide_eq_false (by omega), cond_false]
    have ol : Ok l := ok_of hs hf (by omega) (fun n hn => by
      have h1 := wNs_mem hn
      have h2 : wN n = n.text.length + n.other.length + n.kids.length := rfl
      omega)
    obtain ⟨r, r1, r2, r3, h1, h2⟩ := SortFuncs_ok ol
    have a1 := toNodeS_ok l false ol.len ol.k
    have a3 := eqNodeS_same r false false (by unfold maxLen; omega) (fun n hn => by unfold maxLen; have := r2 n hn; omega)
    have a4 := eqNodeS_same l false false hl (fun n hn => (hf n hn).kids)
    have a6 := markNodeS_ok 1 l (by omega) (by have := ol.w; omega)
    have a8 := markNodeS_ok 1 r (by omega) (by omega)
    have a9 := heldNodeS_ok 1 r (by omega) (by omega)
    rw [fz_encNs] at a9
    have d1 : decide ((1 : Int) + (wK l : Int) < 0) = false := decide_eq_false (by omega)
    have d2 : decide ((1 : Int) + (wK r : Int) < 0) = false := decide_eq_false (by omega)
    simp only [a1, fz_encNs, h1, h2, a3, a4, a6, a8, a9, d1, d2, some_bind, pure_oneN, cond_true, cond_false, Bool.not_true, bne_self_eq_false]
  · rw [if_neg hs]; rfl
end Go.Proofs.YtpcdaeebbpedoaaGreatDoor
