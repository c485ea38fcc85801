/-
  The law on Subst in plain Lean.
-/
import Derived.Test.YtodbelembghegaaGreatDoorZAssigns
namespace Go.Proofs.YtodbelembghegaaGreatDoor
set_option linter.unusedVariables false
set_option linter.unusedSimpArgs false
open Go Go.Vm

mutual
theorem wK_flat : ∀ (t : Tn) (b : Nat), wK (t.flat b) + 1 = 5 * t.size
  | .mk k o x y ks, b => by
    have := wK_flats ks b
    have e : wK [(⟨k, o, x, y, ends ks b⟩ : Nd)] = 4 + ks.length := by simp [wK, ends_length]
    rw [Tn.flat, wK_append, e, Tn.size]
    omega
theorem wK_flats : ∀ (ks : List Tn) (b : Nat), wK (flats ks b) + ks.length = 5 * sizes ks
  | [], _ => rfl
  | t :: ts, b => by
    have h1 := wK_flat t b
    have h2 := wK_flats ts (b + t.size)
    rw [flats, wK_append, sizes, List.length_cons]
    omega
end
mutual
/-- texts of bounded length -/
def sml : Tn → Prop
  | .mk _ _ x y ks => (x.length ≤ 1048576 ∧ y.length ≤ 1048576) ∧ smls ks
def smls : List Tn → Prop
  | [] => True
  | t :: ts => sml t ∧ smls ts
end
mutual
theorem sml_iff : ∀ (t : Tn) (b : Nat), sml t ↔ ∀ n, n ∈ t.flat b → Small n
  | .mk k o x y ks, b => by
    rw [sml, smls_iff ks b, Tn.flat]
    constructor
    · rintro ⟨⟨h1, h2⟩, h3⟩ n hn
      rcases List.mem_append.1 hn with hn | hn
      · exact h3 n hn
      · simp only [List.mem_singleton] at hn
        subst hn
        exact ⟨h1, h2⟩
    · intro h
      have h1 := h ⟨k, o, x, y, ends ks b⟩ (by simp)
      exact ⟨⟨h1.text, h1.other⟩, fun n hn => h n (List.mem_append_left _ hn)⟩
theorem smls_iff : ∀ (ks : List Tn) (b : Nat), smls ks ↔ ∀ n, n ∈ flats ks b → Small n
  | [], b => by simp [smls, flats]
  | t :: ts, b => by
    rw [smls, sml_iff t b, smls_iff ts (b + t.size), flats]
    constructor
    · rintro ⟨h1, h2⟩ n hn
      rcases List.mem_append.1 hn with hn | hn
      · exact h1 n hn
      · exact h2 n hn
    · intro h
      exact ⟨fun n hn => h n (List.mem_append_left _ hn), fun n hn => h n (List.mem_append_right _ hn)⟩
end

/-! ### the trees -/
section
variable (name : Str) (X : Tn)
mutual
def substT : Tn → Tn
  | .mk k o x y ks => if k = 1 ∧ x = name then X else .mk k o x y (substs ks)
def substs : List Tn → List Tn
  | [] => []
  | t :: ts => substT t :: substs ts
end
theorem substs_map : ∀ ks : List Tn, substs name X ks = ks.map (substT name X)
  | [] => rfl
  | t :: ts => by rw [substs, substs_map ts]; rfl
mutual
theorem subst_size : ∀ t : Tn, (substT name X t).size ≤ t.size * X.size
  | .mk k o x y ks => by
    have h := substs_size ks
    have hX := X.size_pos
    rw [substT, Tn.size]
    rw [Nat.add_mul, Nat.one_mul]
    split
    · omega
    · rw [Tn.size]; omega
theorem substs_size : ∀ ks : List Tn, sizes (substs name X ks) ≤ sizes ks * X.size
  | [] => by simp [substs, sizes]
  | t :: ts => by
    have h1 := subst_size t
    have h2 := substs_size ts
    rw [substs, sizes, sizes, Nat.add_mul]
    omega
end
mutual
theorem subst_sml (hX : sml X) : ∀ t : Tn, sml t → sml (substT name X t)
  | .mk k o x y ks, h => by
    rw [sml] at h
    rw [substT]
    split
    · exact hX
    · rw [sml]; exact ⟨h.1, substs_sml hX ks h.2⟩
theorem substs_sml (hX : sml X) : ∀ ks : List Tn, smls ks → smls (substs name X ks)
  | [], _ => trivial
  | t :: ts, h => by
    rw [smls] at h
    rw [substs, smls]
    exact ⟨subst_sml hX t h.1, substs_sml hX ts h.2⟩
end
end
theorem fz_one (w : Bool) (t : Tn) : fzRows [t.row w] = [t.row false] := by
  rw [fzRows, fz_row]; rfl
section
variable {l : List Nd} {o : Bool} {name : Str} {X : Tn}
theorem put_tn (hl : l.length ≤ 400) (hX : X.size ≤ 400) (t : Tn) : ∀ (f b : Nat), Lies l b t → t.size ≤ f →
    M.spec_l46Put_N f (encNs o l) ((b + sizes t.kids : Nat) : Int) name (encNs false (X.flat 0)) = some (encNs true ((substT name X t).flat 0)) := by
  refine Tn.ind (P := fun t => ∀ (f b : Nat), Lies l b t → t.size ≤ f → M.spec_l46Put_N f (encNs o l) ((b + sizes t.kids : Nat) : Int) name (encNs false (X.flat 0)) = some (encNs true ((substT name X t).flat 0))) ?_ t
  intro k op x y ks ih f b h hf
  cases f with
  | zero => rw [Tn.size] at hf; omega
  | succ f =>
    have hroot : l[b + sizes ks]? = some ⟨k, op, x, y, ends ks b⟩ := h.root
    have hlt := h.lt
    rw [Tn.size] at hf hlt
    have hkl := sizes_le ks
    have hcopy : M.spec_l6Copy (encNs false (X.flat 0)) = some (encNs true (X.flat 0)) := copy_ok _ _ (by rw [X.flat_length]; omega) (fun n hn => by
      obtain ⟨h1, h2⟩ := flat_kids X 0 n hn
      exact ⟨by omega, fun e he => by have := h2 e he; exact ⟨by omega, by omega⟩⟩)
    have hrec : ∀ j t, ks[j]? = some t → M.spec_l46Put_N f (encNs o l) ((b + sizes (ks.take j) + sizes t.kids : Nat) : Int) name (encNs false (X.flat 0)) = some (encNs true ((substT name X t).flat 0)) := fun j t hj =>
      ih t (List.mem_of_getElem? hj) f _ (Lies.at_kid h hj) (by have := sizes_take hj; omega)
    have hloop := loopM_run (b := M.spec_l46Put_l5_b (M.spec_l46Put_N f) (encNs o l) ((b + sizes ks : Nat) : Int) name (encNs false (X.flat 0)))
      (t := ((ks.length : Int), ks.map fun t => [D.sl true 5 (encNs true ((substT name X t).flat 0))])) (fun j => ((j : Int), (ks.take j).map fun t => [D.sl true 5 (encNs true ((substT name X t).flat 0))])) ks.length
      (by
        intro j hj
        obtain ⟨t, ht⟩ : ∃ t, ks[j]? = some t := ⟨ks[j], by simp⟩
        have hr := hrec j t ht
        have he := ends_at (b := b) ht
        simp only [M.spec_l46Put_l5_b, M.spec_l46Put_l5_C, idx_nat, get_encNs, hroot, Option.map_some, some_bind, cN4, encI_length, ends_length, get_encI, he, cI0, hr, List.length_map, List.length_take, List.length_singleton]
        rw [decide_eq_true (by omega), cond_true, ble_ok (by omega), cond_true, ble_ok (by omega), cond_true, wrap_ok (by omega) (by omega), take_succ_get ht]
        simp)
      (by
        simp only [M.spec_l46Put_l5_b, M.spec_l46Put_l5_C, idx_nat, get_encNs, hroot, Option.map_some, some_bind, cN4, encI_length, ends_length]
        rw [decide_eq_false (by omega), cond_false, List.take_length]) 0 (Nat.zero_le _)
    rw [nat0, List.take_zero, List.map_nil] at hloop
    have hloop' : M.spec_l46Put_l5 (M.spec_l46Put_N f) (encNs o l) ((b + sizes ks : Nat) : Int) name (encNs false (X.flat 0)) (0, []) = some ((ks.length : Int), ks.map fun t => [D.sl true 5 (encNs true ((substT name X t).flat 0))]) := hloop
    have hmk : ∀ kr, M.spec_l6Make k op x y kr (fzRows (ks.map fun t => [D.sl true 5 (encNs true ((substT name X t).flat 0))])) = some (encNs true ((Tn.mk k op x y (substs name X ks)).flat 0)) := by
      intro kr
      have e : (ks.map fun t => [D.sl true 5 (encNs true ((substT name X t).flat 0))]) = (substs name X ks).map fun t => [D.sl true 5 (encNs true (t.flat 0))] := by
        rw [substs_map, List.map_map]; rfl
      rw [e, fz_parts]
      refine make_ok _ _ _ _ _ _ ?_
      have h1 := substs_size name X ks
      have h2 : sizes ks * X.size ≤ 400 * 400 := Nat.mul_le_mul (by omega) hX
      omega
    simp only [M.spec_l46Put_N, M.spec_l46Put_C, Tn.kids, idx_nat, get_encNs, hroot, Option.map_some, some_bind, cN0, cN1, cN2, cN3, cN4, hloop', hmk, hcopy, pure_oneN, cond_true]
    rw [substT]
    by_cases h1 : k = 1
    · rw [beq_iff_eq.2 h1, cond_true]
      by_cases h2 : x = name
      · rw [beq_iff_eq.2 h2, if_pos ⟨h1, h2⟩]; rfl
      · rw [beq_eq_false_iff_ne.2 h2, if_neg (by rintro ⟨_, h⟩; contradiction)]; rfl
    · rw [beq_eq_false_iff_ne.2 h1, if_neg (by rintro ⟨h, _⟩; contradiction)]; rfl
theorem edited_tn (hl : l.length ≤ 400) (hX : X.size ≤ 400) (t : Tn) : ∀ (f b : Nat), Lies l b t → t.size ≤ f →
    M.impl_edited_N f (encNs o l) ((b + sizes t.kids : Nat) : Int) name (encNs false (X.flat 0)) = some ([(substT name X t).row false], name, encNs false (X.flat 0)) := by
  refine Tn.ind (P := fun t => ∀ (f b : Nat), Lies l b t → t.size ≤ f → M.impl_edited_N f (encNs o l) ((b + sizes t.kids : Nat) : Int) name (encNs false (X.flat 0)) = some ([(substT name X t).row false], name, encNs false (X.flat 0))) ?_ t
  intro k op x y ks ih f b h hf
  cases f with
  | zero => rw [Tn.size] at hf; omega
  | succ f =>
    have hroot : l[b + sizes ks]? = some ⟨k, op, x, y, ends ks b⟩ := h.root
    have hlt := h.lt
    rw [Tn.size] at hf hlt
    have hkl := sizes_le ks
    have hrec : ∀ j t, ks[j]? = some t → M.impl_edited_N f (encNs o l) ((b + sizes (ks.take j) + sizes t.kids : Nat) : Int) name (encNs false (X.flat 0)) = some ([(substT name X t).row false], name, encNs false (X.flat 0)) := fun j t hj =>
      ih t (List.mem_of_getElem? hj) f _ (Lies.at_kid h hj) (by have := sizes_take hj; omega)
    -- what the closure makes
    have hdo : ∀ (i : Int) (us : List Tn), (us = substs name X ks) → M.impl_Subst_c1 i k op x y (rowsT false us) name (encNs false (X.flat 0)) = some ([(substT name X (.mk k op x y ks)).row (decide (k = 1 ∧ x = name))], name, encNs false (X.flat 0)) := by
      rintro i us rfl
      have hro := rootOf_tn (t := X) (o := false) (by omega)
      simp only [M.impl_Subst_c1, M.impl_Subst_c1_C, fz_encNs, hro, some_bind]
      rw [substT]
      by_cases h1 : k = 1
      · rw [beq_iff_eq.2 h1, cond_true]
        by_cases h2 : x = name
        · rw [beq_iff_eq.2 h2, cond_true, if_pos ⟨h1, h2⟩, decide_eq_true ⟨h1, h2⟩, row_eq]
        · rw [beq_eq_false_iff_ne.2 h2, if_neg (by rintro ⟨_, h⟩; contradiction), decide_eq_false (by rintro ⟨_, h⟩; contradiction)]; rfl
      · rw [beq_eq_false_iff_ne.2 h1, if_neg (by rintro ⟨h, _⟩; contradiction), decide_eq_false (by rintro ⟨h, _⟩; contradiction)]; rfl
    have hloop := loopM_run (b := M.impl_edited_l4_b (M.impl_edited_N f))
      (t := if ks = [] then .inl (encNs o l, ((b + sizes ks : Nat) : Int), encI (ends ks b), (ks.length : Int), 0, name, encNs false (X.flat 0), k, op, x, y) else .inr (encNs o l, ((b + sizes ks : Nat) : Int), encI (ends ks b), (ks.length : Int), (ks.length : Int), name, encNs false (X.flat 0), k, op, x, y, rowsT false (substs name X ks)))
      (fun j => if j = 0 then .inl (encNs o l, ((b + sizes ks : Nat) : Int), encI (ends ks b), (ks.length : Int), 0, name, encNs false (X.flat 0), k, op, x, y) else .inr (encNs o l, ((b + sizes ks : Nat) : Int), encI (ends ks b), (ks.length : Int), (j : Int), name, encNs false (X.flat 0), k, op, x, y, rowsT false (substs name X (ks.take j)))) ks.length
      (by
        intro j hj
        obtain ⟨t, ht⟩ : ∃ t, ks[j]? = some t := ⟨ks[j], by simp⟩
        have hr := hrec j t ht
        have he := ends_at (b := b) ht
        have hs : substs name X (ks.take (j + 1)) = substs name X (ks.take j) ++ [substT name X t] := by
          rw [take_succ_get ht, substs_map, substs_map, List.map_append]; rfl
        have hsl : (rowsT false (substs name X (ks.take j))).length = j := by rw [rowsT_length, substs_map, List.length_map, List.length_take]; omega
        rw [if_neg (show ¬ j + 1 = 0 by omega), hs, rowsT_append]
        by_cases h0 : j = 0
        · subst h0
          rw [if_pos rfl]
          have hi : idx (encI (ends ks b)) 0 = some [D.int .i64 ((b + sizes (ks.take 0) + sizes t.kids : Nat) : Int)] := by
            have := idx_nat (encI (ends ks b)) 0
            rw [nat0] at this
            rw [this, get_encI, he]
            rfl
          simp only [M.impl_edited_l4_b, M.impl_edited_l4_C, hi, some_bind, cI0, hr, fz_one, fz_encNs, List.length_singleton]
          rw [decide_eq_true (by omega), cond_true, ble_ok (by omega), cond_true, ble_ok (by omega), cond_true]
          rfl
        · rw [if_neg h0]
          simp only [M.impl_edited_l4_b, M.impl_edited_l4_C, idx_nat, get_encI, he, Option.map_some, some_bind, cI0, hr, fz_one, fz_encNs, List.length_singleton, hsl]
          rw [decide_eq_true (by omega), cond_true, ble_ok (by omega), cond_true, ble_ok (by omega), cond_true, wrap_ok (by omega) (by omega)]
          rfl)
      (by
        by_cases h0 : ks.length = 0
        · have he : ks = [] := List.length_eq_zero_iff.1 h0
          rw [if_pos h0, if_pos he]
          simp only [M.impl_edited_l4_b, M.impl_edited_l4_C]
          rw [decide_eq_false (by omega), cond_false]
        · have he : ¬ ks = [] := fun e => h0 (by rw [e]; rfl)
          rw [if_neg h0, if_neg he, List.take_length]
          simp only [M.impl_edited_l4_b, M.impl_edited_l4_C]
          rw [decide_eq_false (by omega), cond_false]) 0 (Nat.zero_le _)
    rw [if_pos rfl] at hloop
    simp only [M.impl_edited_N, M.impl_edited_C, Tn.kids, idx_nat, get_encNs, hroot, Option.map_some, some_bind, cN0, cN1, cN2, cN3, cN4, encI_length, ends_length, fz_encNs]
    rw [M.impl_edited_l4, hloop, some_bind]
    by_cases he : ks = []
    · rw [if_pos he]
      have := hdo ((b + sizes ks : Nat) : Int) [] (by rw [he]; rfl)
      have e0 : rowsT false [] = [] := rfl
      rw [e0] at this
      simp only [sumE, this, some_bind, fz_one, fz_encNs]
    · rw [if_neg he]
      have := hdo ((b + sizes ks : Nat) : Int) _ rfl
      simp only [sumE, letE, this, some_bind, fz_one, fz_encNs, fz_rowsT]
end
/-! ### the law -/
structure Ok (l : List Nd) : Prop where
  len : l.length ≤ 1048576
  kids : ∀ n, n ∈ l → n.kids.length ≤ 1048576 ∧ ∀ e, e ∈ n.kids → I64 e
  sm : ∀ n, n ∈ l → Small n
  w : wK l ≤ 10000000
theorem ok_flat {t : Tn} (h : t.size ≤ 200000) (hs : sml t) : Ok (t.flat 0) := by
  have hw := wK_flat t 0
  refine ⟨by rw [t.flat_length]; omega, fun n hn => ?_, (sml_iff t 0).1 hs, by omega⟩
  obtain ⟨h1, h2⟩ := flat_kids t 0 n hn
  exact ⟨by omega, fun e he => by have := h2 e he; exact ⟨by omega, by omega⟩⟩
theorem Ok.k {l : List Nd} (h : Ok l) : ∀ n, n ∈ l → n.kids.length ≤ 1048576 := fun n hn => by have := (h.kids n hn).1; omega
theorem treeOk_shape {l : List Nd} (h : treeOk l = true) : lshape l = true := by
  unfold treeOk at h
  rw [Bool.and_eq_true] at h
  exact h.1
theorem Subst_ok {l xs : List Nd} (name : Str) (hl : Ok l) (hx : Ok xs) : ∃ r b, Ok r ∧ M.spec_Subst (encNs false l) name (encNs false xs) = some (encNs true r, b) ∧ M.impl_Subst (encNs false l) name (encNs false xs) = some (encNs true r, b) := by
  have hlen := hl.len
  have a1 := spec_TreeOk_ok l false (by omega) hl.k hl.sm
  have a2 := impl_TreeOk_ok l false (by omega) hl.k hl.sm
  have a3 := spec_ExprOk_ok xs false (by have := hx.len; omega) hx.k hx.sm
  have a4 := impl_ExprOk_ok xs false (by have := hx.len; omega) hx.k hx.sm
  have a5 := spec_AssignsTo_ok l false name (by omega)
  have a6 := impl_AssignsTo_ok l false name (by omega)
  have a7 := copy_ok l false hl.len hl.kids
  have a8 := copyNodes_ok l false hl.len hl.k
  simp only [M.spec_Subst, M.spec_Subst_C, M.impl_Subst, M.impl_Subst_C, a1, a3, a4, a5, a6, a7, a8, some_bind, encNs_length]
  cases ht : treeOk l with
  | false =>
    refine ⟨l, false, hl, rfl, ?_⟩
    cases he : exprOk xs with
    | false => rfl
    | true =>
      cases has : l.any (assigns l name) with
      | true => rfl
      | false =>
        simp only [Bool.not_true, cond_false, M.impl_edit, M.impl_edit_C, a2, ht, some_bind, Bool.not_false, cond_true, a8]
  | true =>
    cases he : exprOk xs with
    | false => exact ⟨l, false, hl, rfl, rfl⟩
    | true =>
      cases has : l.any (assigns l name) with
      | true => exact ⟨l, false, hl, rfl, rfl⟩
      | false =>
        obtain ⟨t, rfl, hts⟩ := shape_tree (treeOk_shape ht)
        have hex : treeOk xs = true := by
          unfold exprOk at he
          rw [Bool.and_eq_true] at he
          exact he.1
        obtain ⟨X, rfl, hXs⟩ := shape_tree (treeOk_shape hex)
        have hs := t.size_kids
        have hidx : IntKind.i64.wrap (((t.flat 0).length : Int) - 1) = ((0 + sizes t.kids : Nat) : Int) := by
          rw [t.flat_length, wrap_ok (by omega) (by omega)]
          omega
        have b1 := M.spec_l46Put_of (put_tn (o := false) (name := name) (by rw [t.flat_length]; omega) hXs t t.size 0 (Lies.whole t) (Nat.le_refl _))
        have b2 := M.impl_edited_of (edited_tn (o := false) (name := name) (by rw [t.flat_length]; omega) hXs t t.size 0 (Lies.whole t) (Nat.le_refl _))
        have hsz : (substT name X t).size ≤ 160000 := by
          have h1 := subst_size name X t
          have h2 : t.size * X.size ≤ 400 * 400 := Nat.mul_le_mul hts hXs
          omega
        have hok : Ok ((substT name X t).flat 0) := ok_flat (by omega) (subst_sml name X ((sml_iff X 0).2 hx.sm) t ((sml_iff t 0).2 hl.sm))
        have b3 := spec_TreeOk_ok ((substT name X t).flat 0) false (by have := hok.len; omega) hok.k hok.sm
        have b4 := impl_TreeOk_ok ((substT name X t).flat 0) false (by have := hok.len; omega) hok.k hok.sm
        have b5 := list_tn (t := substT name X t) (w := false) (by omega)
        have hin : M.impl_within 0 0 ((0 + sizes t.kids : Nat) : Int) = some true := by
          rw [impl_within_ok, decide_eq_true (by omega), decide_eq_true (by omega)]; rfl
        have hi0 : idx [(substT name X t).row false] 0 = some ((substT name X t).row false) := rfl
        have hne : (((1 : Nat) : Int) != 1) = false := rfl
        generalize substT name X t = T at *
        have hc0 : cInt .i64 (T.row false) 0 = some T.kind := by cases T; rfl
        have hc1 : cInt .i64 (T.row false) 1 = some T.op := by cases T; rfl
        have hc2 : cStr (T.row false) 2 = some T.text := by cases T; rfl
        have hc3 : cStr (T.row false) 3 = some T.other := by cases T; rfl
        have hc4 : cSl 5 (T.row false) 4 = some (rowsT false T.kids) := by cases T; rfl
        simp only [Bool.not_true, cond_false, hidx, b1, b2, M.impl_edit, M.impl_edit_C, a2, ht, some_bind, encNs_length, hin, fz_encNs, fz_one, List.length_singleton, hne, hi0, hc0, hc1, hc2, hc3, hc4, b5, b3, b4]
        cases treeOk (T.flat 0) with
        | false => exact ⟨t.flat 0, false, hl, rfl, by rw [Bool.not_false, cond_true, a8]; rfl⟩
        | true => exact ⟨T.flat 0, true, hok, rfl, rfl⟩
theorem ok_of {l : List Nd} (hs : (l.length + wNs l : Int) ≤ 1048576) (hf : ∀ n, n ∈ l → Fit n) (hl : l.length ≤ 1048576) (hk : ∀ n, n ∈ l → n.kids.length ≤ 1048576) : Ok l := by
  have hw : ∀ l : List Nd, wK l ≤ 4 * l.length + wNs l := by
    intro l
    induction l with
    | nil => exact Nat.le_refl _
    | cons n l ih => rw [wK, wNs, wN, List.length_cons]; omega
  have := hw l
  exact ⟨hl, fun n hn => ⟨hk n hn, (hf n hn).kid⟩, fun n hn => by
    have h1 := wNs_mem hn
    have h2 : wN n = n.text.length + n.other.length + n.kids.length := rfl
    exact ⟨by omega, by omega⟩, by omega⟩
theorem law_Subst (l : List Nd) (name : Str) (xs : List Nd) (hl : l.length ≤ maxLen) (hf : ∀ n, n ∈ l → Fit n) (hn : name.length ≤ maxLen) (hxl : xs.length ≤ maxLen) (hxf : ∀ n, n ∈ xs → Fit n) :
    M.laws_FnExactSubst (encNs false l) name (encNs false xs) = some true := by
  simp only [M.laws_FnExactSubst, M.laws_FnExactSubst_C]
  cases hb : decide ((name.length : Int) > 1048576) with
  | true => rfl
  | false =>
    rw [cond_false, szNodeS_ok l false 1048576 (by omega) (by omega) hl hf, some_bind]
    by_cases hs : (l.length + wNs l : Int) ≤ 1048576
    · rw [if_pos hs, decide_eq_false (by omega), cond_false, szNodeS_ok xs false _ (by omega) (by omega) hxl hxf, some_bind]
      by_cases hs2 : (xs.length + wNs xs : Int) ≤ 1048576 - l.length - wNs l
      · rw [if_pos hs2, decide_eq_false (by omega), cond_false]
        have hkk : ∀ {l : List Nd}, (l.length + wNs l : Int) ≤ 1048576 → ∀ n, n ∈ l → n.kids.length ≤ 1048576 := by
          intro l hs n hn
          have h1 := wNs_mem hn
          have h2 : wN n = n.text.length + n.other.length + n.kids.length := rfl
          omega
        have ol : Ok l := ok_of hs hf (by omega) (hkk hs)
        have ox : Ok xs := ok_of (by omega) hxf (by omega) (hkk (by omega))
        obtain ⟨r, b, hr, h1, h2⟩ := Subst_ok name ol ox
        have a1 := toNodeS_ok l false ol.len ol.k
        have a2 := toNodeS_ok xs false ox.len ox.k
        have a3 := eqNodeS_same r false false (by unfold maxLen; have := hr.len; omega) (fun n hn => by unfold maxLen; have := hr.k n hn; omega)
        have a4 := eqNodeS_same l false false hl (fun n hn => (hf n hn).kids)
        have a5 := eqNodeS_same xs false false hxl (fun n hn => (hxf n hn).kids)
        have a6 := markNodeS_ok 1 l (by omega) (by have := ol.w; omega)
        have a7 := markNodeS_ok (1 + wK l) xs (by omega) (by have := ol.w; have := ox.w; omega)
        have a8 := markNodeS_ok 1 r (by omega) (by have := hr.w; omega)
        have a9 := heldNodeS_ok 1 r (by omega) (by have := hr.w; omega)
        rw [fz_encNs] at a9
        have d1 : decide ((1 : Int) + (wK l : Int) + (wK xs : Int) < 0) = false := decide_eq_false (by omega)
        have d2 : decide ((1 : Int) + (wK r : Int) < 0) = false := decide_eq_false (by omega)
        have d3 : (!b == b) = false := by cases b <;> rfl
        simp only [a1, a2, fz_encNs, h1, h2, a3, a4, a5, a6, a7, a8, a9, d1, d2, d3, some_bind, pure_oneNB, cond_true, cond_false, Bool.not_true, bne_self_eq_false]
      · rw [if_neg hs2]; rfl
    · rw [if_neg hs]; rfl
end Go.Proofs.YtodbelembghegaaGreatDoor
