import Derived.Test.YtpcdaeebbpedoaaGreatDoorZLie
namespace Go.Proofs.YtpcdaeebbpedoaaGreatDoor
set_option linter.unusedVariables false
set_option linter.unusedSimpArgs false
open Go Go.Vm
theorem treeAt_tn {l : List Nd} {o : Bool} (hl : l.length ≤ 1048576) (t : Tn) : ∀ (f b : Nat), Lies l b t → t.size ≤ f →
    M.impl_treeAt_N f (encNs o l) ((b + sizes t.kids : Nat) : Int) = some (t.kind, t.op, t.text, t.other, rowsT true t.kids) := by
  refine Tn.ind (P := fun t => ∀ (f b : Nat), Lies l b t → t.size ≤ f → M.impl_treeAt_N f (encNs o l) ((b + sizes t.kids : Nat) : Int) = some (t.kind, t.op, t.text, t.other, rowsT true t.kids)) ?_ t
  intro k op x y ks ih f b h hf
  cases f with
  | zero => rw [Tn.size] at hf; omega
  | succ f =>
    have hroot : l[b + sizes ks]? = some ⟨k, op, x, y, ends ks b⟩ := h.root
    have hlt := h.lt
    rw [Tn.size] at hf hlt
    have hkl := sizes_le ks
    simp only [M.impl_treeAt_N, M.impl_treeAt_C, idx_nat, get_encNs, Tn.kids, Tn.kind, Tn.op, Tn.text, Tn.other, hroot, Option.map_some, some_bind, cN0, cN1, cN2, cN3, cN4, encI_length, ends_length]
    have hrec : ∀ j t, ks[j]? = some t → M.impl_treeAt_N f (encNs o l) ((b + sizes (ks.take j) + sizes t.kids : Nat) : Int) = some (t.kind, t.op, t.text, t.other, rowsT true t.kids) := fun j t hj =>
      ih t (List.mem_of_getElem? hj) f _ (Lies.at_kid h hj) (by have := sizes_take hj; omega)
    have hloop := loopM_run (b := M.impl_treeAt_l4_b (M.impl_treeAt_N f))
      (t := if ks = [] then .inl (encNs o l, encI (ends ks b), (ks.length : Int), 0, 0, 0, [], [], k, op, x, y) else .inr (encNs o l, encI (ends ks b), (ks.length : Int), (ks.length : Int), 0, 0, [], [], k, op, x, y, rowsT true ks))
      (fun j => if j = 0 then .inl (encNs o l, encI (ends ks b), (ks.length : Int), 0, 0, 0, [], [], k, op, x, y) else .inr (encNs o l, encI (ends ks b), (ks.length : Int), (j : Int), 0, 0, [], [], k, op, x, y, rowsT true (ks.take j))) ks.length
      (by
        intro j hj
        obtain ⟨t, ht⟩ : ∃ t, ks[j]? = some t := ⟨ks[j], by simp⟩
        have hr := hrec j t ht
        have he := ends_at (b := b) ht
        rw [if_neg (show ¬ j + 1 = 0 by omega), rowsT_succ ht, row_eq]
        by_cases h0 : j = 0
        · subst h0
          rw [if_pos rfl]
          have hi : idx (encI (ends ks b)) 0 = some [D.int .i64 ((b + sizes (ks.take 0) + sizes t.kids : Nat) : Int)] := by
            have := idx_nat (encI (ends ks b)) 0
            rw [nat0] at this
            rw [this, get_encI, he]
            rfl
          simp only [M.impl_treeAt_l4_b, M.impl_treeAt_l4_C, hi, some_bind, cI0, hr]
          rw [decide_eq_true (by omega), cond_true]
          rfl
        · rw [if_neg h0]
          simp only [M.impl_treeAt_l4_b, M.impl_treeAt_l4_C, idx_nat, get_encI, he, Option.map_some, some_bind, cI0, hr, rowsT_length, List.length_take, List.length_singleton]
          rw [decide_eq_true (by omega), cond_true, ble_ok (by omega), cond_true, ble_ok (by omega), cond_true, wrap_ok (by omega) (by omega)]
          rfl)
      (by
        by_cases h0 : ks.length = 0
        · have he : ks = [] := List.length_eq_zero_iff.1 h0
          rw [if_pos h0, if_pos he]
          simp only [M.impl_treeAt_l4_b, M.impl_treeAt_l4_C]
          rw [decide_eq_false (by omega), cond_false]
        · have he : ¬ ks = [] := fun e => h0 (by rw [e]; rfl)
          rw [if_neg h0, if_neg he, List.take_length]
          simp only [M.impl_treeAt_l4_b, M.impl_treeAt_l4_C]
          rw [decide_eq_false (by omega), cond_false]) 0 (Nat.zero_le _)
    rw [if_pos rfl] at hloop
    rw [M.impl_treeAt_l4, hloop, some_bind]
    by_cases he : ks = []
    · rw [if_pos he, he]
      rfl
    · rw [if_neg he]
      rfl
theorem treeAt_lies {l : List Nd} {o : Bool} (hl : l.length ≤ 1048576) {t : Tn} {b : Nat} (h : Lies l b t) : M.impl_treeAt (encNs o l) ((b + sizes t.kids : Nat) : Int) = some (t.kind, t.op, t.text, t.other, rowsT true t.kids) :=
  M.impl_treeAt_of (treeAt_tn hl t t.size b h (Nat.le_refl _))
theorem rootOf_tn {t : Tn} {o : Bool} (hl : t.size ≤ 1048576) : M.impl_rootOf (encNs o (t.flat 0)) = some (t.kind, t.op, t.text, t.other, rowsT true t.kids) := by
  have hs := t.size_kids
  simp only [M.impl_rootOf, M.impl_rootOf_C, encNs_length, t.flat_length]
  have h := treeAt_lies (o := o) (by rw [t.flat_length]; omega) (Lies.whole t)
  rw [Nat.zero_add] at h
  rw [wrap_ok (by omega) (by omega), show (t.size : Int) - 1 = ((sizes t.kids : Nat) : Int) by omega, h, some_bind]
end Go.Proofs.YtpcdaeebbpedoaaGreatDoor
