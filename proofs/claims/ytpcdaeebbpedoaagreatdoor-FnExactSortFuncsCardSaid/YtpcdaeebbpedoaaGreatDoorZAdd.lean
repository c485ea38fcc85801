import Derived.Test.YtpcdaeebbpedoaaGreatDoorZLie
namespace Go.Proofs.YtpcdaeebbpedoaaGreatDoor
set_option linter.unusedVariables false
set_option linter.unusedSimpArgs false
open Go Go.Vm
theorem add_tn (t : Tn) : ∀ (f : Nat) (w : Bool) (p : List Nd), t.size ≤ f → p.length + t.size ≤ 1048576 →
    M.impl_tree_add_N f t.kind t.op t.text t.other (rowsT w t.kids) (encNs true p) = some (encNs true (p ++ t.flat p.length)) := by
  refine Tn.ind (P := fun t => ∀ (f : Nat) (w : Bool) (p : List Nd), t.size ≤ f → p.length + t.size ≤ 1048576 → M.impl_tree_add_N f t.kind t.op t.text t.other (rowsT w t.kids) (encNs true p) = some (encNs true (p ++ t.flat p.length))) ?_ t
  intro k op x y ks ih f w p hf hp
  cases f with
  | zero => rw [Tn.size] at hf; omega
  | succ f =>
    rw [Tn.size] at hf hp
    have hkl := sizes_le ks
    simp only [M.impl_tree_add_N, M.impl_tree_add_C, Tn.kids, Tn.kind, Tn.op, Tn.text, Tn.other, rowsT_length]
    have hrec : ∀ j t, ks[j]? = some t → M.impl_tree_add_N f t.kind t.op t.text t.other (rowsT w t.kids) (encNs true (p ++ flats (ks.take j) p.length)) = some (encNs true (p ++ flats (ks.take (j + 1)) p.length)) := by
      intro j t hj
      have hst := sizes_take hj
      have hfl : (p ++ flats (ks.take j) p.length).length = p.length + sizes (ks.take j) := by rw [List.length_append, flats_length]
      have := ih t (List.mem_of_getElem? hj) f w (p ++ flats (ks.take j) p.length) (by omega) (by rw [hfl]; omega)
      rw [this, hfl, flats_succ hj, List.append_assoc]
    have hloop := loopM_run (b := M.impl_tree_add_l3_b (M.impl_tree_add_N f))
      (t := if ks = [] then .inl (rowsT w ks, (ks.length : Int), 0, encNs true p, k, op, x, y) else .inr (rowsT w ks, (ks.length : Int), (ks.length : Int), encNs true (p ++ flats ks p.length), k, op, x, y, encI (ends ks p.length)))
      (fun j => if j = 0 then .inl (rowsT w ks, (ks.length : Int), 0, encNs true p, k, op, x, y) else .inr (rowsT w ks, (ks.length : Int), (j : Int), encNs true (p ++ flats (ks.take j) p.length), k, op, x, y, encI (ends (ks.take j) p.length))) ks.length
      (by
        intro j hj
        obtain ⟨t, ht⟩ : ∃ t, ks[j]? = some t := ⟨ks[j], by simp⟩
        have hr := hrec j t ht
        have hst := sizes_take ht
        have hp1 := t.size_pos
        have hg : (rowsT w ks)[j]? = some (t.row w) := by rw [rowsT_map]; simp [ht]
        have hc0 : cInt .i64 (t.row w) 0 = some t.kind := by cases t; rfl
        have hc1 : cInt .i64 (t.row w) 1 = some t.op := by cases t; rfl
        have hc2 : cStr (t.row w) 2 = some t.text := by cases t; rfl
        have hc3 : cStr (t.row w) 3 = some t.other := by cases t; rfl
        have hc4 : cSl 5 (t.row w) 4 = some (rowsT w t.kids) := by cases t; rfl
        have hfl : (encNs true (p ++ flats (ks.take (j + 1)) p.length)).length = p.length + sizes (ks.take j) + t.size := by rw [encNs_length, List.length_append, flats_length, take_succ_get ht, sizes_append, sizes, sizes]; omega
        rw [if_neg (show ¬ j + 1 = 0 by omega), ends_succ ht]
        by_cases h0 : j = 0
        · subst h0
          rw [if_pos rfl]
          have hi : idx (rowsT w ks) 0 = some (t.row w) := by
            have := idx_nat (rowsT w ks) 0
            rw [nat0] at this
            rw [this, hg]
          have hr0 : M.impl_tree_add_N f t.kind t.op t.text t.other (rowsT w t.kids) (encNs true p) = some (encNs true (p ++ flats (ks.take (0 + 1)) p.length)) := by
            rw [← hr]
            simp [flats]
          simp only [M.impl_tree_add_l3_b, M.impl_tree_add_l3_C, hi, some_bind, hc0, hc1, hc2, hc3, hc4, hr0, hfl]
          rw [decide_eq_true (by omega), cond_true, wrap_ok (by omega) (by omega), wrap_ok (by omega) (by omega)]
          rfl
        · rw [if_neg h0]
          simp only [M.impl_tree_add_l3_b, M.impl_tree_add_l3_C, idx_nat, hg, some_bind, hc0, hc1, hc2, hc3, hc4, hr, hfl, encI_length, ends_length, List.length_take, List.length_singleton]
          rw [decide_eq_true (by omega), cond_true, ble_ok (by omega), cond_true, ble_ok (by omega), cond_true, wrap_ok (by omega) (by omega), wrap_ok (by omega) (by omega)]
          simp [encI])
      (by
        by_cases h0 : ks.length = 0
        · have he : ks = [] := List.length_eq_zero_iff.1 h0
          rw [if_pos h0, if_pos he]
          simp only [M.impl_tree_add_l3_b, M.impl_tree_add_l3_C]
          rw [decide_eq_false (by omega), cond_false]
        · have he : ¬ ks = [] := fun e => h0 (by rw [e]; rfl)
          rw [if_neg h0, if_neg he, List.take_length]
          simp only [M.impl_tree_add_l3_b, M.impl_tree_add_l3_C]
          rw [decide_eq_false (by omega), cond_false]) 0 (Nat.zero_le _)
    rw [if_pos rfl] at hloop
    rw [M.impl_tree_add_l3, hloop, some_bind]
    by_cases he : ks = []
    · rw [if_pos he]
      subst he
      simp only [sumE, encNs_length, List.length_singleton]
      rw [ble_ok (by omega), cond_true, ble_ok (by omega), cond_true, encNs_append]
      rfl
    · rw [if_neg he]
      simp only [sumE, letE, encNs_length, List.length_append, flats_length, List.length_singleton, flat_encI, cond_true]
      rw [ble_ok (by omega), cond_true, ble_ok (by omega), cond_true, Tn.flat, ← List.append_assoc]
      simp only [encNs_append]
      rfl
theorem list_tn {t : Tn} {w : Bool} (h : t.size ≤ 1048576) : M.impl_tree_list t.kind t.op t.text t.other (rowsT w t.kids) = some (encNs true (t.flat 0)) := by
  have := M.impl_tree_add_of (add_tn t t.size w [] (Nat.le_refl _) (by simpa using h))
  simp only [M.impl_tree_list, M.impl_tree_list_C]
  have e : encNs true ([] : List Nd) = [] := rfl
  rw [e] at this
  rw [this, some_bind]
  simp
end Go.Proofs.YtpcdaeebbpedoaaGreatDoor
