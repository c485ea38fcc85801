import Derived.Test.YtodbelembghegaaGreatDoorZMarks
namespace Go.Proofs.YtodbelembghegaaGreatDoor
set_option linter.unusedVariables false
set_option linter.unusedSimpArgs false
open Go Go.Vm
theorem row_eq (w : Bool) : ∀ t : Tn, t.row w = [.int .i64 t.kind, .int .i64 t.op, .str t.text, .str t.other, .sl w 5 (rowsT w t.kids)]
  | .mk k o x y ks => rfl
theorem rowsT_append (w : Bool) (a b : List Tn) : rowsT w (a ++ b) = rowsT w a ++ rowsT w b := by simp [rowsT_map]
theorem rowsT_length (w : Bool) (a : List Tn) : (rowsT w a).length = a.length := by simp [rowsT_map]
theorem take_succ_get {α : Type} {l : List α} {j : Nat} {t : α} (h : l[j]? = some t) : l.take (j + 1) = l.take j ++ [t] := by
  rw [List.take_add_one, h]; rfl
theorem split_at {α : Type} {l : List α} {j : Nat} {t : α} (h : l[j]? = some t) : l = l.take j ++ t :: l.drop (j + 1) := by
  obtain ⟨hj, rfl⟩ := List.getElem?_eq_some_iff.1 h
  rw [← List.drop_eq_getElem_cons hj, List.take_append_drop]
theorem sizes_take {ks : List Tn} {j : Nat} {t : Tn} (h : ks[j]? = some t) : sizes (ks.take j) + t.size ≤ sizes ks := by
  have := congrArg sizes (split_at h)
  rw [sizes_append, sizes] at this
  omega
theorem sizes_take_le (ks : List Tn) (j : Nat) : sizes (ks.take j) ≤ sizes ks := by
  have := congrArg sizes (List.take_append_drop j ks)
  rw [sizes_append] at this
  omega
section
variable {l : List Nd} {b : Nat} {k op : Int} {x y : List UInt8} {ks : List Tn}
theorem Lies.at_kid (h : Lies l b (.mk k op x y ks)) {j : Nat} {t : Tn} (hj : ks[j]? = some t) : Lies l (b + sizes (ks.take j)) t := by
  have e := split_at hj
  rw [e] at h
  exact h.kid
theorem ends_at {j : Nat} {t : Tn} (hj : ks[j]? = some t) : (ends ks b)[j]? = some ((b + sizes (ks.take j) + sizes t.kids : Nat) : Int) := by
  have hlt := (List.getElem?_eq_some_iff.1 hj).1
  have hs := t.size_kids
  rw [ends_get hlt, take_succ_get hj, sizes_append, sizes, sizes]
  congr 1
  omega
theorem Lies.root' {t : Tn} (h : Lies l b t) : l[b + sizes t.kids]? = some ⟨t.kind, t.op, t.text, t.other, ends t.kids b⟩ := by
  cases t; exact h.root
theorem ends_succ {j : Nat} {t : Tn} (hj : ks[j]? = some t) : ends (ks.take (j + 1)) b = ends (ks.take j) b ++ [((b + sizes (ks.take j) + t.size : Nat) : Int) - 1] := by
  rw [take_succ_get hj, ends_append, ends, ends]
  congr 2 <;> omega
theorem flats_succ {j : Nat} {t : Tn} (hj : ks[j]? = some t) : flats (ks.take (j + 1)) b = flats (ks.take j) b ++ t.flat (b + sizes (ks.take j)) := by
  rw [take_succ_get hj, flats_append, flats, flats, List.append_nil]
theorem rowsT_succ {w : Bool} {j : Nat} {t : Tn} (hj : ks[j]? = some t) : rowsT w (ks.take (j + 1)) = rowsT w (ks.take j) ++ [t.row w] := by
  rw [take_succ_get hj, rowsT_append]; rfl
theorem ends_range : ∀ (ks : List Tn) (b : Nat), ∀ e, e ∈ ends ks b → (b : Int) ≤ e ∧ e < b + sizes ks
  | [], b, e, h => by simp [ends] at h
  | t :: ts, b, e, h => by
    have hp := t.size_pos
    rw [ends] at h
    have hs : (sizes (t :: ts) : Int) = t.size + sizes ts := by rw [sizes]; omega
    rcases List.mem_cons.1 h with rfl | h
    · omega
    · have := ends_range ts _ e h
      omega
end
mutual
theorem flat_kids : ∀ (t : Tn) (b : Nat), ∀ n, n ∈ t.flat b → n.kids.length ≤ t.size ∧ ∀ e, e ∈ n.kids → (0 : Int) ≤ e ∧ e < b + t.size
  | .mk k o x y ks, b, n, h => by
    rw [Tn.flat] at h
    rw [Tn.size]
    rcases List.mem_append.1 h with h | h
    · have := flats_kids ks b n h
      exact ⟨by omega, fun e he => by have := this.2 e he; omega⟩
    · simp only [List.mem_singleton] at h
      subst h
      refine ⟨by simp only [ends_length]; have := sizes_le ks; omega, fun e he => ?_⟩
      have := ends_range ks b e he
      omega
theorem flats_kids : ∀ (ks : List Tn) (b : Nat), ∀ n, n ∈ flats ks b → n.kids.length ≤ sizes ks ∧ ∀ e, e ∈ n.kids → (0 : Int) ≤ e ∧ e < b + sizes ks
  | [], b, n, h => by simp [flats] at h
  | t :: ts, b, n, h => by
    rw [flats] at h
    rw [sizes]
    rcases List.mem_append.1 h with h | h
    · have := flat_kids t b n h
      exact ⟨by omega, fun e he => by have := this.2 e he; omega⟩
    · have := flats_kids ts _ n h
      exact ⟨by omega, fun e he => by have := this.2 e he; omega⟩
end
theorem shift_ok (l : List Nd) (o : Bool) (d : Int) (hl : l.length ≤ 1048576) (hk : ∀ n, n ∈ l → n.kids.length ≤ 1048576 ∧ ∀ e, e ∈ n.kids → -4000000000 ≤ e + d ∧ e + d ≤ 4000000000) :
    M.spec_l6Shift (encNs o l) d = some (encNs true (l.map (Nd.up d))) := by
  simp only [M.spec_l6Shift, M.spec_l6Shift_C]
  have hloop := loopM_run (b := M.spec_l6Shift_l3_b (encNs o l) d) (t := ((l.length : Int), encNs true (l.map (Nd.up d)))) (fun i => ((i : Int), encNs true ((l.take i).map (Nd.up d)))) l.length
    (by
      intro i hi
      obtain ⟨n, hn⟩ : ∃ n, l[i]? = some n := ⟨l[i], by simp [hi]⟩
      obtain ⟨hkl, hke⟩ := hk n (List.mem_of_getElem? hn)
      have hin := loopM_run (b := M.spec_l6Shift_l8_b (encNs o l) d (i : Int) (encNs true ((l.take i).map (Nd.up d))) n.kind n.op n.text n.other) (t := ((n.kids.length : Int), encI (n.kids.map (· + d)))) (fun j => ((j : Int), encI ((n.kids.take j).map (· + d)))) n.kids.length
        (by
          intro j hj
          obtain ⟨e, he⟩ : ∃ e, n.kids[j]? = some e := ⟨n.kids[j], by simp [hj]⟩
          have := hke e (List.mem_of_getElem? he)
          simp only [M.spec_l6Shift_l8_b, M.spec_l6Shift_l8_C, idx_nat, get_encNs, hn, Option.map_some, some_bind, cN4, encI_length, get_encI, he, cI0, List.length_map, List.length_take, List.length_singleton]
          rw [decide_eq_true (by omega), cond_true, ble_ok (by omega), cond_true, ble_ok (by omega), cond_true, wrap_ok (by omega) (by omega), wrap_ok (by omega) (by omega), take_succ_get he]
          simp [encI])
        (by
          simp only [M.spec_l6Shift_l8_b, M.spec_l6Shift_l8_C, idx_nat, get_encNs, hn, Option.map_some, some_bind, cN4, encI_length]
          rw [decide_eq_false (by omega), cond_false, List.take_length]) 0 (Nat.zero_le _)
      simp only [nat0, List.take_zero, List.map_nil] at hin
      have hin' : M.spec_l6Shift_l8 (encNs o l) d (i : Int) (encNs true ((l.take i).map (Nd.up d))) n.kind n.op n.text n.other (0, []) = some ((n.kids.length : Int), encI (n.kids.map (· + d))) := hin
      simp only [M.spec_l6Shift_l3_b, M.spec_l6Shift_l3_C, encNs_length, idx_nat, get_encNs, hn, Option.map_some, some_bind, cN0, cN1, cN2, cN3, cN4, hin', flat_encI, cond_true, List.length_map, List.length_take, List.length_singleton]
      rw [decide_eq_true (by omega), cond_true, ble_ok (by omega), cond_true, ble_ok (by omega), cond_true, wrap_ok (by omega) (by omega), take_succ_get hn, List.map_append, encNs_append]
      rfl)
    (by
      simp only [M.spec_l6Shift_l3_b, M.spec_l6Shift_l3_C, encNs_length]
      rw [decide_eq_false (by omega), cond_false, List.take_length]) 0 (Nat.zero_le _)
  simp only [nat0, List.take_zero, List.map_nil] at hloop
  have hloop' : M.spec_l6Shift_l3 (encNs o l) d (0, []) = some ((l.length : Int), encNs true (l.map (Nd.up d))) := hloop
  rw [hloop', some_bind]
theorem treeAt_tn {l : List Nd} {o : Bool} (hl : l.length ≤ 1048576) (t : Tn) : ∀ (f b : Nat), Lies l b t → t.size ≤ f →
    M.impl_treeAt_N f (encNs o l) ((b + sizes t.kids : Nat) : Int) = some (t.kind, t.op, t.text, t.other, rowsT true t.kids) := by
  refine Tn.ind (P := fun t => ∀ (f b : Nat), Lies l b t → t.size ≤ f → M.impl_treeAt_N f (encNs o l) ((b + sizes t.kids : Nat) : Int) = some (t.kind, t.op, t.text, t.other, rowsT true t.kids)) ?_ t
  intro k op x y ks ih f b h hf
  cases f with
  | zero => rw [Tn.size] at hf; omega
  | succ f =>
    have hroot : l[b + sizes ks]? = some ⟨k, op, x, y, ends ks b⟩ := h.root
    have hlt := h.lt
    rw [Tn.size] at hf hlt
    have hkl := sizes_le ks
    simp only [M.impl_treeAt_N, M.impl_treeAt_C, idx_nat, get_encNs, Tn.kids, Tn.kind, Tn.op, Tn.text, Tn.other, hroot, Option.map_some, some_bind, cN0, cN1, cN2, cN3, cN4, encI_length, ends_length]
    have hrec : ∀ j t, ks[j]? = some t → M.impl_treeAt_N f (encNs o l) ((b + sizes (ks.take j) + sizes t.kids : Nat) : Int) = some (t.kind, t.op, t.text, t.other, rowsT true t.kids) := fun j t hj =>
      ih t (List.mem_of_getElem? hj) f _ (Lies.at_kid h hj) (by have := sizes_take hj; omega)
    have hloop := loopM_run (b := M.impl_treeAt_l4_b (M.impl_treeAt_N f))
      (t := if ks = [] then .inl (encNs o l, encI (ends ks b), (ks.length : Int), 0, 0, 0, [], [], k, op, x, y) else .inr (encNs o l, encI (ends ks b), (ks.length : Int), (ks.length : Int), 0, 0, [], [], k, op, x, y, rowsT true ks))
      (fun j => if j = 0 then .inl (encNs o l, encI (ends ks b), (ks.length : Int), 0, 0, 0, [], [], k, op, x, y) else .inr (encNs o l, encI (ends ks b), (ks.length : Int), (j : Int), 0, 0, [], [], k, op, x, y, rowsT true (ks.take j))) ks.length
      (by
        intro j hj
        obtain ⟨t, ht⟩ : ∃ t, ks[j]? = some t := ⟨ks[j], by simp⟩
        have hr := hrec j t ht
        have he := ends_at (b := b) ht
        rw [if_neg (show ¬ j + 1 = 0 by omega), rowsT_succ ht, row_eq]
        by_cases h0 : j = 0
        · subst h0
          rw [if_pos rfl]
          have hi : idx (encI (ends ks b)) 0 = some [D.int .i64 ((b + sizes (ks.take 0) + sizes t.kids : Nat) : Int)] := by
            have := idx_nat (encI (ends ks b)) 0
            rw [nat0] at this
            rw [this, get_encI, he]
            rfl
          simp only [M.impl_treeAt_l4_b, M.impl_treeAt_l4_C, hi, some_bind, cI0, hr]
          rw [decide_eq_true (by omega), cond_true]
          rfl
        · rw [if_neg h0]
          simp only [M.impl_treeAt_l4_b, M.impl_treeAt_l4_C, idx_nat, get_encI, he, Option.map_some, some_bind, cI0, hr, rowsT_length, List.length_take, List.length_singleton]
          rw [decide_eq_true (by omega), cond_true, ble_ok (by omega), cond_true, ble_ok (by omega), cond_true, wrap_ok (by omega) (by omega)]
          rfl)
      (by
        by_cases h0 : ks.length = 0
        · have he : ks = [] := List.length_eq_zero_iff.1 h0
          rw [if_pos h0, if_pos he]
          simp only [M.impl_treeAt_l4_b, M.impl_treeAt_l4_C]
          rw [decide_eq_false (by omega), cond_false]
        · have he : ¬ ks = [] := fun e => h0 (by rw [e]; rfl)
          rw [if_neg h0, if_neg he, List.take_length]
          simp only [M.impl_treeAt_l4_b, M.impl_treeAt_l4_C]
          rw [decide_eq_false (by omega), cond_false]) 0 (Nat.zero_le _)
    rw [if_pos rfl] at hloop
    rw [M.impl_treeAt_l4, hloop, some_bind]
    by_cases he : ks = []
    · rw [if_pos he, he]
      rfl
    · rw [if_neg he]
      rfl
theorem treeAt_lies {l : List Nd} {o : Bool} (hl : l.length ≤ 1048576) {t : Tn} {b : Nat} (h : Lies l b t) : M.impl_treeAt (encNs o l) ((b + sizes t.kids : Nat) : Int) = some (t.kind, t.op, t.text, t.other, rowsT true t.kids) :=
  M.impl_treeAt_of (treeAt_tn hl t t.size b h (Nat.le_refl _))
theorem rootOf_tn {t : Tn} {o : Bool} (hl : t.size ≤ 1048576) : M.impl_rootOf (encNs o (t.flat 0)) = some (t.kind, t.op, t.text, t.other, rowsT true t.kids) := by
  have hs := t.size_kids
  simp only [M.impl_rootOf, M.impl_rootOf_C, encNs_length, t.flat_length]
  have h := treeAt_lies (o := o) (by rw [t.flat_length]; omega) (Lies.whole t)
  rw [Nat.zero_add] at h
  rw [wrap_ok (by omega) (by omega), show (t.size : Int) - 1 = ((sizes t.kids : Nat) : Int) by omega, h, some_bind]
theorem add_tn (t : Tn) : ∀ (f : Nat) (w : Bool) (p : List Nd), t.size ≤ f → p.length + t.size ≤ 1048576 →
    M.impl_tree_add_N f t.kind t.op t.text t.other (rowsT w t.kids) (encNs true p) = some (encNs true (p ++ t.flat p.length)) := by
  refine Tn.ind (P := fun t => ∀ (f : Nat) (w : Bool) (p : List Nd), t.size ≤ f → p.length + t.size ≤ 1048576 → M.impl_tree_add_N f t.kind t.op t.text t.other (rowsT w t.kids) (encNs true p) = some (encNs true (p ++ t.flat p.length))) ?_ t
  intro k op x y ks ih f w p hf hp
  cases f with
  | zero => rw [Tn.size] at hf; omega
  | succ f =>
    rw [Tn.size] at hf hp
    have hkl := sizes_le ks
    simp only [M.impl_tree_add_N, M.impl_tree_add_C, Tn.kids, Tn.kind, Tn.op, Tn.text, Tn.other, rowsT_length]
    have hrec : ∀ j t, ks[j]? = some t → M.impl_tree_add_N f t.kind t.op t.text t.other (rowsT w t.kids) (encNs true (p ++ flats (ks.take j) p.length)) = some (encNs true (p ++ flats (ks.take (j + 1)) p.length)) := by
      intro j t hj
      have hst := sizes_take hj
      have hfl : (p ++ flats (ks.take j) p.length).length = p.length + sizes (ks.take j) := by rw [List.length_append, flats_length]
      have := ih t (List.mem_of_getElem? hj) f w (p ++ flats (ks.take j) p.length) (by omega) (by rw [hfl]; omega)
      rw [this, hfl, flats_succ hj, List.append_assoc]
    have hloop := loopM_run (b := M.impl_tree_add_l3_b (M.impl_tree_add_N f))
      (t := if ks = [] then .inl (rowsT w ks, (ks.length : Int), 0, encNs true p, k, op, x, y) else .inr (rowsT w ks, (ks.length : Int), (ks.length : Int), encNs true (p ++ flats ks p.length), k, op, x, y, encI (ends ks p.length)))
      (fun j => if j = 0 then .inl (rowsT w ks, (ks.length : Int), 0, encNs true p, k, op, x, y) else .inr (rowsT w ks, (ks.length : Int), (j : Int), encNs true (p ++ flats (ks.take j) p.length), k, op, x, y, encI (ends (ks.take j) p.length))) ks.length
      (by
        intro j hj
        obtain ⟨t, ht⟩ : ∃ t, ks[j]? = some t := ⟨ks[j], by simp⟩
        have hr := hrec j t ht
        have hst := sizes_take ht
        have hp1 := t.size_pos
        have hg : (rowsT w ks)[j]? = some (t.row w) := by rw [rowsT_map]; simp [ht]
        have hc0 : cInt .i64 (t.row w) 0 = some t.kind := by cases t; rfl
        have hc1 : cInt .i64 (t.row w) 1 = some t.op := by cases t; rfl
        have hc2 : cStr (t.row w) 2 = some t.text := by cases t; rfl
        have hc3 : cStr (t.row w) 3 = some t.other := by cases t; rfl
        have hc4 : cSl 5 (t.row w) 4 = some (rowsT w t.kids) := by cases t; rfl
        have hfl : (encNs true (p ++ flats (ks.take (j + 1)) p.length)).length = p.length + sizes (ks.take j) + t.size := by rw [encNs_length, List.length_append, flats_length, take_succ_get ht, sizes_append, sizes, sizes]; omega
        rw [if_neg (show ¬ j + 1 = 0 by omega), ends_succ ht]
        by_cases h0 : j = 0
        · subst h0
          rw [if_pos rfl]
          have hi : idx (rowsT w ks) 0 = some (t.row w) := by
            have := idx_nat (rowsT w ks) 0
            rw [nat0] at this
            rw [this, hg]
          have hr0 : M.impl_tree_add_N f t.kind t.op t.text t.other (rowsT w t.kids) (encNs true p) = some (encNs true (p ++ flats (ks.take (0 + 1)) p.length)) := by
            rw [← hr]
            simp [flats]
          simp only [M.impl_tree_add_l3_b, M.impl_tree_add_l3_C, hi, some_bind, hc0, hc1, hc2, hc3, hc4, hr0, hfl]
          rw [decide_eq_true (by omega), cond_true, wrap_ok (by omega) (by omega), wrap_ok (by omega) (by omega)]
          rfl
        · rw [if_neg h0]
          simp only [M.impl_tree_add_l3_b, M.impl_tree_add_l3_C, idx_nat, hg, some_bind, hc0, hc1, hc2, hc3, hc4, hr, hfl, encI_length, ends_length, List.length_take, List.length_singleton]
          rw [decide_eq_true (by omega), cond_true, ble_ok (by omega), cond_true, ble_ok (by omega), cond_true, wrap_ok (by omega) (by omega), wrap_ok (by omega) (by omega)]
          simp [encI])
      (by
        by_cases h0 : ks.length = 0
        · have he : ks = [] := List.length_eq_zero_iff.1 h0
          rw [if_pos h0, if_pos he]
          simp only [M.impl_tree_add_l3_b, M.impl_tree_add_l3_C]
          rw [decide_eq_false (by omega), cond_false]
        · have he : ¬ ks = [] := fun e => h0 (by rw [e]; rfl)
          rw [if_neg h0, if_neg he, List.take_length]
          simp only [M.impl_tree_add_l3_b, M.impl_tree_add_l3_C]
          rw [decide_eq_false (by omega), cond_false]) 0 (Nat.zero_le _)
    rw [if_pos rfl] at hloop
    rw [M.impl_tree_add_l3, hloop, some_bind]
    by_cases he : ks = []
    · rw [if_pos he]
      subst he
      simp only [sumE, encNs_length, List.length_singleton]
      rw [ble_ok (by omega), cond_true, ble_ok (by omega), cond_true, encNs_append]
      rfl
    · rw [if_neg he]
      simp only [sumE, letE, encNs_length, List.length_append, flats_length, List.length_singleton, flat_encI, cond_true]
      rw [ble_ok (by omega), cond_true, ble_ok (by omega), cond_true, Tn.flat, ← List.append_assoc]
      simp only [encNs_append]
      rfl
theorem list_tn {t : Tn} {w : Bool} (h : t.size ≤ 1048576) : M.impl_tree_list t.kind t.op t.text t.other (rowsT w t.kids) = some (encNs true (t.flat 0)) := by
  have := M.impl_tree_add_of (add_tn t t.size w [] (Nat.le_refl _) (by simpa using h))
  simp only [M.impl_tree_list, M.impl_tree_list_C]
  have e : encNs true ([] : List Nd) = [] := rfl
  rw [e] at this
  rw [this, some_bind]
  simp
end Go.Proofs.YtodbelembghegaaGreatDoor
