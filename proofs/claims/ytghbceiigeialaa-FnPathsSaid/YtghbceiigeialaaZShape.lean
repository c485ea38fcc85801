import Derived.Test.YtghbceiigeialaaZCommon
namespace Go.Proofs.Ytghbceiigeialaa
set_option linter.unusedVariables false
set_option linter.unusedSimpArgs false
open Go Go.Vm
theorem spec_l1In_ok (x lo hi : Int) : M.spec_l1In x lo hi = some (decide (lo ≤ x) && decide (x ≤ hi)) := by
  simp only [M.spec_l1In, M.spec_l1In_C]
  by_cases h : lo ≤ x
  · rw [decide_eq_true (show x ≥ lo from h)]; rfl
  · rw [decide_eq_false (show ¬ x ≥ lo from h)]; rfl
theorem impl_within_ok (x lo hi : Int) : M.impl_within x lo hi = some (decide (lo ≤ x) && decide (x ≤ hi)) := by
  simp only [M.impl_within, M.impl_within_C]
  by_cases h : lo ≤ x
  · rw [decide_eq_true (show x ≥ lo from h)]; rfl
  · rw [decide_eq_false (show ¬ x ≥ lo from h)]; rfl
theorem decI_enc : ∀ k : List Int, decI (encI k) = some k
  | [] => rfl
  | x :: k => by
    have : encI (x :: k) = [D.int .i64 x] :: encI k := rfl
    rw [this]
    simp only [decI, decI_enc k, Option.map_some]
def nk (n : Nd) : Nk := ⟨n.kind, n.op, ⟨⟨n.text⟩⟩, ⟨⟨n.other⟩⟩, n.kids⟩
theorem decKs_enc (o : Bool) : ∀ l : List Nd, (∀ n, n ∈ l → n.kids.length ≤ 1048576) → decKs (encNs o l) = some (l.map nk)
  | [], _ => rfl
  | n :: l, h => by
    have : encNs o (n :: l) = encN o n :: encNs o l := rfl
    rw [this, decKs]
    have hk : decK (encN o n) = some (nk n) := by
      simp only [encN, decK, decI_enc, some_bind]
      rw [if_pos (h n List.mem_cons_self)]
      rfl
    rw [hk, some_bind, decKs_enc o l (fun m hm => h m (List.mem_cons_of_mem _ hm))]
    rfl
theorem ks_nk (l : List Nd) : (l.map nk).map (·.kids) = ks l := by simp [ks, nk]
theorem impl_ShapeOk_ok (l : List Nd) (o : Bool) (hl : l.length ≤ 1048576) (hk : ∀ n, n ∈ l → n.kids.length ≤ 1048576) : M.impl_ShapeOk (encNs o l) = some (lshape l) := by
  simp only [M.impl_ShapeOk, M.impl_ShapeOk_C, M.impl_startsOf, decKs_enc o l hk, some_bind, ks_nk, List.length_map]
  rw [if_pos hl, lshape]
  cases startsOk (ks l) with
  | none => rfl
  | some st => rfl
theorem starts_in_ok (l : List Nd) (o : Bool) {i : Nat} {n : Nd} {st : List Int} (hi : l[i]? = some n) (hl : l.length ≤ 1048576) (hkl : n.kids.length ≤ 1048576) (hst : okSt st) (hs : st.length = i) :
    ∀ (j : Nat) (a : Int), j ≤ n.kids.length → 0 ≤ a → a ≤ i → M.spec_l6Starts_l7 (encNs o l) (i : Int) (encI st) (a, (j : Int) - 1) = some (match walkKids st (n.kids.take j).reverse (a - 1) with
      | none => .inl ()
      | some r => .inr (r + 1, -1))
  | 0, a, hj, h0, h1 => by
    rw [M.spec_l6Starts_l7]
    apply loopM_end
    simp only [M.spec_l6Starts_l7_b, M.spec_l6Starts_l7_C]
    rw [decide_eq_false (by omega), cond_false, List.take_zero, List.reverse_nil, walkKids]
    simp
  | j + 1, a, hj, h0, h1 => by
    have hlt : i < l.length := (List.getElem?_eq_some_iff.1 hi).1
    obtain ⟨k, hk⟩ : ∃ k, n.kids[j]? = some k := ⟨n.kids[j]'(by omega), by simp⟩
    have ht : (n.kids.take (j + 1)).reverse = k :: (n.kids.take j).reverse := by
      rw [List.take_add_one, hk, Option.toList_some, List.reverse_append]
      rfl
    rw [ht, walkKids]
    have e1 : (((j + 1 : Nat) : Int) - 1) = (j : Int) := by omega
    rw [e1]
    have hstep : M.spec_l6Starts_l7_b (encNs o l) (i : Int) (encI st) (a, (j : Int)) = if a - 1 < 0 ∨ k ≠ a - 1 then some (.inr (.inl ())) else some (.inl (st[k.toNat]?.getD 0, (j : Int) - 1)) := by
      simp only [M.spec_l6Starts_l7_b, M.spec_l6Starts_l7_C, idx_nat, get_encNs, hi, Option.map_some, some_bind, cN4, get_encI, hk, cI0]
      rw [decide_eq_true (by omega), cond_true, wrap_ok (n := a - 1) (by omega) (by omega)]
      by_cases h2 : k = a - 1
      · have : (k != a - 1) = false := by simp [h2]
        rw [this, cond_false]
        by_cases h3 : a = 0
        · have : (a == 0) = true := by simp [h3]
          rw [this, cond_true, if_pos (.inl (by omega))]
        · have : (a == 0) = false := by simp [h3]
          rw [this, cond_false, if_neg (by omega)]
          obtain ⟨d, hd⟩ : ∃ d : Nat, a - 1 = (d : Int) := ⟨(a - 1).toNat, by omega⟩
          have hdl : d < st.length := by omega
          rw [h2, hd]
          simp only [idx_encI, idx_nat, get_encI, Int.toNat_natCast]
          rw [List.getElem?_eq_getElem hdl]
          simp only [Option.map_some, some_bind, cI0, Option.getD_some]
          rw [wrap_ok (by omega) (by omega)]
      · have : (k != a - 1) = true := by simp [h2]
        rw [this, cond_true, if_pos (.inr h2)]
    by_cases hc : a - 1 < 0 ∨ k ≠ a - 1
    · rw [if_pos hc]
      rw [if_pos hc] at hstep
      exact loopM_end hstep
    · rw [if_neg hc]
      rw [if_neg hc] at hstep
      rw [M.spec_l6Starts_l7, loopM_next hstep]
      have hz := okSt_get hst k.toNat
      have := starts_in_ok l o hi hl hkl hst hs j (st[k.toNat]?.getD 0) (by omega) hz.1 (by omega)
      rw [M.spec_l6Starts_l7] at this
      exact this
theorem starts_out_ok (l : List Nd) (o : Bool) (hl : l.length ≤ 1048576) (hk : ∀ n, n ∈ l → n.kids.length ≤ 1048576) : ∀ (rest : List Nd) (i : Nat) (st : List Int), l.drop i = rest → st.length = i → i ≤ l.length → okSt st →
    M.spec_l6Starts_l3 (encNs o l) ((i : Int), encI st) = some (match startsL st (ks rest) with
      | none => .inl ()
      | some r => .inr ((l.length : Int), encI r))
  | [], i, st, hd, hs, hi, hst => by
    have : l.length ≤ i := List.drop_eq_nil_iff.1 hd
    rw [M.spec_l6Starts_l3]
    apply loopM_end
    simp only [M.spec_l6Starts_l3_b, M.spec_l6Starts_l3_C, encNs_length]
    rw [decide_eq_false (by omega), cond_false]
    have : i = l.length := by omega
    subst this
    rfl
  | n :: rest, i, st, hd, hs, hi, hst => by
    have hn : l[i]? = some n := by
      have : (l.drop i)[0]? = some n := by rw [hd]; rfl
      simpa using this
    have hlt : i < l.length := (List.getElem?_eq_some_iff.1 hn).1
    have hd' : l.drop (i + 1) = rest := by rw [← List.drop_drop, hd]; rfl
    have hkn := hk n (List.mem_of_getElem? hn)
    have hin := starts_in_ok l o hn hl hkn hst hs n.kids.length (i : Int) (Nat.le_refl _) (by omega) (by omega)
    rw [List.take_length] at hin
    have hks : ks (n :: rest) = n.kids :: ks rest := rfl
    rw [hks, startsL, hs]
    have hstep : M.spec_l6Starts_l3_b (encNs o l) ((i : Int), encI st) = some (match walkKids st n.kids.reverse ((i : Int) - 1) with
        | none => .inr (.inl ())
        | some a => .inl (((i + 1 : Nat) : Int), encI (st ++ [a + 1]))) := by
      simp only [M.spec_l6Starts_l3_b, M.spec_l6Starts_l3_C, encNs_length, idx_nat, get_encNs, hn, Option.map_some, some_bind, cN4, encI_length]
      rw [decide_eq_true (by omega), cond_true, wrap_ok (n := (n.kids.length : Int) - 1) (by omega) (by omega), hin]
      cases hw : walkKids st n.kids.reverse ((i : Int) - 1) with
      | none => rfl
      | some a =>
        simp only [some_bind, sumE, letE, List.length_singleton]
        rw [ble_ok (by omega), cond_true, ble_ok (by omega), cond_true, wrap_ok (by omega) (by omega)]
        simp [encI]
    cases hw : walkKids st n.kids.reverse ((i : Int) - 1) with
    | none =>
      rw [hw] at hstep
      exact loopM_end hstep
    | some a =>
      rw [hw] at hstep
      rw [M.spec_l6Starts_l3, loopM_next hstep]
      have hr := walk_range hst _ _ _ (by omega) (by omega) hw
      have := starts_out_ok l o hl hk rest (i + 1) (st ++ [a + 1]) hd' (by simp [hs]) hlt (okSt_snoc hst hr.1 hr.2)
      rw [M.spec_l6Starts_l3] at this
      exact this
theorem spec_ShapeOk_ok (l : List Nd) (o : Bool) (hl : l.length ≤ 1048576) (hk : ∀ n, n ∈ l → n.kids.length ≤ 1048576) : M.spec_ShapeOk (encNs o l) = some (lshape l) := by
  simp only [M.spec_ShapeOk, M.spec_ShapeOk_C, spec_l1In_ok, some_bind, encNs_length]
  by_cases h1 : 1 ≤ l.length ∧ l.length ≤ 400
  · have hb : (decide ((1 : Int) ≤ (l.length : Int)) && decide ((l.length : Int) ≤ 400)) = true := by simp; omega
    rw [hb, Bool.not_true, cond_false]
    have h := starts_out_ok l o hl hk l 0 [] rfl rfl (Nat.zero_le _) okSt_nil
    have e0 : ((0 : Nat) : Int) = 0 := rfl
    rw [e0] at h
    simp only [M.spec_l6Starts, M.spec_l6Starts_C]
    rw [show ([] : List Row) = encI [] from rfl, h, lshape, startsOk, if_pos (by rw [ks_length]; exact h1)]
    cases hs : startsL [] (ks l) with
    | none => rfl
    | some r =>
      have hrl : r.length = l.length := by
        have := starts_len _ _ _ hs
        rw [ks_length] at this
        simpa using this
      simp only [some_bind, sumE, letE, flat_encI, cond_true]
      rw [wrap_ok (by omega) (by omega), show (l.length : Int) - 1 = ((l.length - 1 : Nat) : Int) by omega]
      simp only [idx_encI, idx_nat, get_encI, Int.toNat_natCast]
      rw [List.getElem?_eq_getElem (by omega)]
      simp only [Option.map_some, some_bind, cI0, Option.getD_some]
  · have hb : (decide ((1 : Int) ≤ (l.length : Int)) && decide ((l.length : Int) ≤ 400)) = false := by
      cases hq : (decide ((1 : Int) ≤ (l.length : Int)) && decide ((l.length : Int) ≤ 400)) with
      | false => rfl
      | true => simp at hq; omega
    rw [hb, Bool.not_false, cond_true, lshape, startsOk, if_neg (by rw [ks_length]; exact h1)]
theorem walk_kids {st : List Int} (h : okSt st) : ∀ (l : List Int) (a r : Int), a < st.length → walkKids st l a = some r → ∀ k, k ∈ l → 0 ≤ k ∧ k < st.length
  | [], a, r, h1, e, k, hk => absurd hk List.not_mem_nil
  | x :: l, a, r, h1, e, k, hk => by
    rw [walkKids] at e
    split at e
    · cases e
    · rename_i hc
      have hz := okSt_get h x.toNat
      rcases List.mem_cons.1 hk with rfl | hk
      · omega
      · exact walk_kids h l _ r (by omega) e k hk
theorem starts_kids : ∀ (l : List (List Int)) (st r : List Int), okSt st → startsL st l = some r → ∀ (i : Nat) n, l[i]? = some n → ∀ k, k ∈ n → 0 ≤ k ∧ k < st.length + i
  | [], st, r, h0, h, i, n, hn => by simp at hn
  | m :: l, st, r, h0, h, i, n, hn => by
    rw [startsL] at h
    split at h
    · cases h
    · rename_i a ha
      have hr := walk_range h0 _ _ _ (by omega) (by omega) ha
      cases i with
      | zero =>
        simp only [List.getElem?_cons_zero, Option.some.injEq] at hn
        subst hn
        intro k hk
        have := walk_kids h0 _ _ _ (by omega) ha k (List.mem_reverse.2 hk)
        omega
      | succ i =>
        simp only [List.getElem?_cons_succ] at hn
        intro k hk
        have := starts_kids l _ r (okSt_snoc h0 hr.1 hr.2) h i n hn k hk
        simp at this
        omega
theorem shape_kids {l : List Nd} (h : lshape l = true) {i : Nat} {n : Nd} (hn : l[i]? = some n) : ∀ k, k ∈ n.kids → 0 ≤ k ∧ k < i := by
  unfold lshape at h
  cases hs : startsOk (ks l) with
  | none => rw [hs] at h; cases h
  | some r =>
    unfold startsOk at hs
    split at hs
    · have := starts_kids _ _ _ okSt_nil hs i n.kids (by simp [ks, hn])
      simpa using this
    · cases hs
theorem shape_len {l : List Nd} (h : lshape l = true) : 1 ≤ l.length ∧ l.length ≤ 400 := by
  unfold lshape at h
  cases hs : startsOk (ks l) with
  | none => rw [hs] at h; cases h
  | some r =>
    unfold startsOk at hs
    split at hs
    · rename_i hq
      rw [ks_length] at hq
      exact hq
    · cases hs
end Go.Proofs.Ytghbceiigeialaa
