import Derived.Test.YtpcdaeebbpedoaaGreatDoorZDepth
namespace Go.Proofs.YtpcdaeebbpedoaaGreatDoor
set_option linter.unusedVariables false
set_option linter.unusedSimpArgs false
open Go Go.Vm
def allP {α : Type} (p : Nat → α → Bool) : List α → Nat → Bool
  | [], _ => true
  | x :: l, i => p i x && allP p l (i + 1)
theorem all_loop {α : Type} (l : List α) (p : Nat → α → Bool) {b : Int → Option (Int ⊕ (Unit ⊕ Int))}
    (hb : ∀ (i : Nat) x, l[i]? = some x → b (i : Int) = some (bif p i x then .inl ((i : Int) + 1) else .inr (.inl ()))) (he : b (l.length : Int) = some (.inr (.inr (l.length : Int)))) :
    loopM b 0 = some (bif allP p l 0 then .inr (l.length : Int) else .inl ()) := by
  have key : ∀ (t : List α) (i : Nat), l.drop i = t → i ≤ l.length → loopM b (i : Int) = some (bif allP p t i then .inr (l.length : Int) else .inl ()) := by
    intro t
    induction t with
    | nil =>
      intro i hd hi
      have : i = l.length := by
        have := congrArg List.length hd
        simp at this
        omega
      subst this
      exact loopM_end he
    | cons x t ih =>
      intro i hd hi
      have hx : l[i]? = some x := by
        have : (l.drop i)[0]? = some x := by rw [hd]; rfl
        simpa using this
      have hlt : i < l.length := (List.getElem?_eq_some_iff.1 hx).1
      have hd' : l.drop (i + 1) = t := by
        rw [← List.drop_drop, hd]
        rfl
      have hs := hb i x hx
      rw [allP]
      cases hw : p i x with
      | true =>
        rw [hw, cond_true] at hs
        rw [loopM_next hs, show (i : Int) + 1 = ((i + 1 : Nat) : Int) by omega, ih (i + 1) hd' hlt, Bool.true_and]
      | false =>
        rw [hw, cond_false] at hs
        rw [loopM_end hs]
        rfl
  exact key l 0 rfl (Nat.zero_le _)
noncomputable def fOk (n : Nd) : Bool := (M.spec_FieldsOk n.kind n.op n.text n.other (encI n.kids)).getD false
noncomputable def kOk (n : Nd) (j : Int) (d : Int) : Bool := (M.spec_l7Kid n.kind n.op n.text n.other (encI n.kids) j d).getD false
structure Small (n : Nd) : Prop where
  text : n.text.length ≤ 1048576
  other : n.other.length ≤ 1048576
theorem fOk_ok {n : Nd} (hs : Small n) (hk : n.kids.length ≤ 400) : M.spec_FieldsOk n.kind n.op n.text n.other (encI n.kids) = some (fOk n) ∧ M.impl_FieldsOk n.kind n.op n.text n.other (encI n.kids) = some (fOk n) := by
  obtain ⟨b, h1, h2⟩ := FieldsOk_ok n.kind n.op n.text n.other (encI n.kids) hs.text hs.other (by rw [encI_length]; exact hk)
  rw [fOk, h1]
  exact ⟨rfl, h2⟩
theorem kOk_ok {n : Nd} (hs : Small n) (hk : n.kids.length ≤ 400) (hf : fOk n = true) (j : Nat) (hj : j < n.kids.length) (d : Int) :
    M.spec_l7Kid n.kind n.op n.text n.other (encI n.kids) (j : Int) d = some (kOk n j d) ∧ M.impl_kidOk n.kind n.op n.text n.other (encI n.kids) (j : Int) d = some (kOk n j d) := by
  have hc := cons_of (k := n.kind) (op := n.op) (t := n.text) (o := n.other) (kids := encI n.kids) (by rw [(fOk_ok hs hk).1, hf])
  obtain ⟨b, h1, h2⟩ := kid_ok n.kind n.op n.text n.other (encI n.kids) (j : Int) d (by omega) (by rw [encI_length]; omega) (by rw [encI_length]; exact hk) hc
  rw [kOk, h1]
  exact ⟨rfl, h2⟩
theorem sumI_ge : ∀ (l : List Int), (∀ x, x ∈ l → 1 ≤ x) → (l.length : Int) ≤ sumI l
  | [], _ => by simp [sumI]
  | x :: l, h => by
    have := sumI_ge l fun y hy => h y (List.mem_cons_of_mem _ hy)
    have := h x List.mem_cons_self
    simp only [List.length_cons, sumI]
    omega
section
variable {l : List Nd} {r : List Int} {o : Bool}
theorem Val.kids_len (h : Val l r) {i : Nat} {n : Nd} (hn : l[i]? = some n) : n.kids.length ≤ 400 := by
  have hil := (List.getElem?_eq_some_iff.1 hn).1
  have h1 := h.sum hn
  have h2 := sumI_ge (n.kids.map (sz r)) (fun x hx => by
    obtain ⟨k, hk, rfl⟩ := List.mem_map.1 hx
    exact (h.sz_pos (h.kids hn k hk).1).1)
  rw [List.length_map] at h2
  have h3 := (h.sz_pos (k := (i : Int)) (by omega)).2
  have := h.le
  omega
theorem Val.kids_all (h : Val l r) : ∀ n, n ∈ l → n.kids.length ≤ 400 := fun n hn => by
  obtain ⟨i, hi⟩ := List.mem_iff_getElem?.1 hn
  exact h.kids_len hi
noncomputable def kp (l : List Nd) (n : Nd) (j : Nat) (k : Int) : Bool := kOk n j (ndAt l k.toNat).kind
theorem kids_loops (h : Val l r) (hsm : ∀ n, n ∈ l → Small n) {i : Nat} {n : Nd} (hn : l[i]? = some n) (hf : fOk n = true) (v10 : List Row) (v11 v12 : Int) :
    M.spec_TreeOk_l9 (encNs o l) (i : Int) 0 = some (bif allP (kp l n) n.kids 0 then .inr (n.kids.length : Int) else .inl ()) ∧
    M.impl_TreeOk_l9 (encNs o l) v10 v11 v12 (encI n.kids) (n.kids.length : Int) n.kind n.op n.text n.other (encI n.kids) 0 = some (bif allP (kp l n) n.kids 0 then .inr (n.kids.length : Int) else .inl ()) := by
  have hkl := h.kids_len hn
  have hs := hsm n (List.mem_of_getElem? hn)
  have step : ∀ (j : Nat) k, n.kids[j]? = some k → ∃ (q : Nat) (m : Nd), k = (q : Int) ∧ l[q]? = some m ∧ (ndAt l k.toNat).kind = m.kind := by
    intro j k hj
    have hkr := h.kids hn k (List.mem_of_getElem? hj)
    have hil := (List.getElem?_eq_some_iff.1 hn).1
    obtain ⟨q, hq⟩ : ∃ q : Nat, k = q := ⟨k.toNat, by omega⟩
    obtain ⟨m, hm⟩ : ∃ m, l[q]? = some m := ⟨l[q]'(by omega), by simp⟩
    refine ⟨q, m, hq, hm, ?_⟩
    rw [hq, Int.toNat_natCast, ndAt, hm]
  constructor
  · rw [M.spec_TreeOk_l9]
    refine all_loop n.kids (kp l n) (fun j k hj => ?_) ?_
    · obtain ⟨q, m, hq, hm, he⟩ := step j k hj
      have hjl := (List.getElem?_eq_some_iff.1 hj).1
      have hok := (kOk_ok hs hkl hf j hjl m.kind).1
      rw [kp, he]
      subst hq
      simp only [M.spec_TreeOk_l9_b, M.spec_TreeOk_l9_C, idx_nat, get_encNs, hn, hm, Option.map_some, some_bind, cN0, cN1, cN2, cN3, cN4, encI_length, get_encI, hj, cI0, hok]
      rw [decide_eq_true (by omega), cond_true, wrap_ok (by omega) (by omega)]
      cases kOk n j m.kind <;> rfl
    · simp only [M.spec_TreeOk_l9_b, M.spec_TreeOk_l9_C, idx_nat, get_encNs, hn, Option.map_some, some_bind, cN4, encI_length]
      rw [decide_eq_false (by omega), cond_false]
  · rw [M.impl_TreeOk_l9]
    refine all_loop n.kids (kp l n) (fun j k hj => ?_) ?_
    · obtain ⟨q, m, hq, hm, he⟩ := step j k hj
      have hjl := (List.getElem?_eq_some_iff.1 hj).1
      have hok := (kOk_ok hs hkl hf j hjl m.kind).2
      rw [kp, he]
      subst hq
      simp only [M.impl_TreeOk_l9_b, M.impl_TreeOk_l9_C, idx_nat, get_encNs, hm, Option.map_some, some_bind, cN0, get_encI, hj, cI0, hok]
      rw [decide_eq_true (by omega), cond_true, wrap_ok (by omega) (by omega)]
      cases kOk n j m.kind <;> rfl
    · simp only [M.impl_TreeOk_l9_b, M.impl_TreeOk_l9_C]
      rw [decide_eq_false (by omega), cond_false]
noncomputable def np (l : List Nd) (_ : Nat) (n : Nd) : Bool := fOk n && allP (kp l n) n.kids 0
theorem nodes_loops (h : Val l r) (hsm : ∀ n, n ∈ l → Small n) :
    M.spec_TreeOk_l4 (encNs o l) 0 = some (bif allP (np l) l 0 then .inr (l.length : Int) else .inl ()) ∧
    M.impl_TreeOk_l4 (encNs o l) (encNs o l) (l.length : Int) 0 = some (bif allP (np l) l 0 then .inr (l.length : Int) else .inl ()) := by
  have hle := h.le
  constructor
  · rw [M.spec_TreeOk_l4]
    refine all_loop l (np l) (fun i n hi => ?_) ?_
    · have hil := (List.getElem?_eq_some_iff.1 hi).1
      have hf := (fOk_ok (hsm n (List.mem_of_getElem? hi)) (h.kids_len hi)).1
      simp only [M.spec_TreeOk_l4_b, M.spec_TreeOk_l4_C, encNs_length, idx_nat, get_encNs, hi, Option.map_some, some_bind, cN0, cN1, cN2, cN3, cN4, hf, np]
      rw [decide_eq_true (by omega), cond_true, wrap_ok (by omega) (by omega)]
      cases hff : fOk n with
      | false => rfl
      | true =>
        have := (kids_loops (o := o) h hsm hi hff [] 0 0).1
        rw [Bool.not_true, cond_false, this, some_bind]
        cases allP (kp l n) n.kids 0 <;> rfl
    · simp only [M.spec_TreeOk_l4_b, M.spec_TreeOk_l4_C, encNs_length]
      rw [decide_eq_false (by omega), cond_false]
  · rw [M.impl_TreeOk_l4]
    refine all_loop l (np l) (fun i n hi => ?_) ?_
    · have hil := (List.getElem?_eq_some_iff.1 hi).1
      have hf := (fOk_ok (hsm n (List.mem_of_getElem? hi)) (h.kids_len hi)).2
      simp only [M.impl_TreeOk_l4_b, M.impl_TreeOk_l4_C, idx_nat, get_encNs, hi, Option.map_some, some_bind, cN0, cN1, cN2, cN3, cN4, hf, np, encI_length]
      rw [decide_eq_true (by omega), cond_true, wrap_ok (by omega) (by omega)]
      cases hff : fOk n with
      | false => rfl
      | true =>
        have := (kids_loops (o := o) h hsm hi hff (encNs o l) (l.length : Int) (i : Int)).2
        rw [Bool.not_true, cond_false, this, some_bind]
        cases allP (kp l n) n.kids 0 <;> rfl
    · simp only [M.impl_TreeOk_l4_b, M.impl_TreeOk_l4_C]
      rw [decide_eq_false (by omega), cond_false]
end
noncomputable def treeOk (l : List Nd) : Bool := lshape l && (decide (depth l ≤ 40) && allP (np l) l 0)
section
variable (l : List Nd) (o : Bool) (hl : l.length ≤ 1048576) (hk : ∀ n, n ∈ l → n.kids.length ≤ 1048576) (hsm : ∀ n, n ∈ l → Small n)
include hl hk hsm
theorem spec_TreeOk_ok : M.spec_TreeOk (encNs o l) = some (treeOk l) := by
  simp only [M.spec_TreeOk, M.spec_TreeOk_C, spec_ShapeOk_ok l o hl hk, spec_DepthOf_ok l o hl hk, some_bind, treeOk]
  cases hs : lshape l with
  | false => rfl
  | true =>
    obtain ⟨r, h⟩ := val_of hs
    rw [Bool.not_true, cond_false, (nodes_loops (o := o) h hsm).1, some_bind, Bool.true_and]
    by_cases hd : depth l ≤ 40
    · rw [decide_eq_false (show ¬ depth l > 40 by omega), cond_false, decide_eq_true hd, Bool.true_and]
      cases allP (np l) l 0 <;> rfl
    · rw [decide_eq_true (show depth l > 40 by omega), cond_true, decide_eq_false hd]
      rfl
theorem impl_TreeOk_ok : M.impl_TreeOk (encNs o l) = some (treeOk l) := by
  simp only [M.impl_TreeOk, M.impl_TreeOk_C, impl_ShapeOk_ok l o hl hk, some_bind, treeOk, encNs_length]
  cases hs : lshape l with
  | false => rfl
  | true =>
    obtain ⟨r, h⟩ := val_of hs
    have h1 := h.pos
    have h2 := h.le
    obtain ⟨n, hn⟩ : ∃ n, l[l.length - 1]? = some n := ⟨l[l.length - 1]'(by omega), by simp⟩
    have ht := treeAt_ok (o := o) h h.kids_all l.length (l.length - 1) n (by omega) hn
    have hd := depth_ok h h.kids_all l.length (l.length - 1) n n.kind n.op n.text n.other (by omega) (by omega) hn
    rw [Bool.not_true, cond_false, (nodes_loops (o := o) h hsm).2, some_bind, Bool.true_and]
    simp only [M.impl_rootOf, M.impl_rootOf_C, encNs_length]
    rw [wrap_ok (by omega) (by omega), show (l.length : Int) - 1 = ((l.length - 1 : Nat) : Int) by omega, M.impl_treeAt_of ht, some_bind, some_bind]
    simp only
    rw [M.impl_tree_depth_of hd, some_bind, depth, if_pos hs]
    cases allP (np l) l 0 <;> simp [sumE, letE]
theorem treeOk_last (ht : treeOk l = true) : ∃ n, l.getLast? = some n ∧ idx (encNs o l) (IntKind.i64.wrap ((l.length : Int) - 1)) = some (encN o n) := by
  unfold treeOk at ht
  rw [Bool.and_eq_true] at ht
  have hp := shape_len ht.1
  have hn : l ≠ [] := by rintro rfl; simp at hp
  obtain ⟨n, hn⟩ : ∃ n, l.getLast? = some n := ⟨_, List.getLast?_eq_some_getLast hn⟩
  have hn' : l[l.length - 1]? = some n := by rw [← List.getLast?_eq_getElem?]; exact hn
  refine ⟨n, hn, ?_⟩
  rw [wrap_ok (by omega) (by omega), show (l.length : Int) - 1 = ((l.length - 1 : Nat) : Int) by omega, idx_nat, get_encNs, hn']
  rfl
end
end Go.Proofs.YtpcdaeebbpedoaaGreatDoor
