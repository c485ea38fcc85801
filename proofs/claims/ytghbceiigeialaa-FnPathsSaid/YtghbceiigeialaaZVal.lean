import Derived.Test.YtghbceiigeialaaZShape
namespace Go.Proofs.Ytghbceiigeialaa
set_option linter.unusedVariables false
set_option linter.unusedSimpArgs false
open Go Go.Vm
theorem starts_prefix : ∀ (l : List (List Int)) (st r : List Int), startsL st l = some r → ∃ t, r = st ++ t
  | [], st, r, h => by
    rw [startsL] at h
    cases h
    exact ⟨[], by simp⟩
  | n :: l, st, r, h => by
    rw [startsL] at h
    split at h
    · cases h
    · obtain ⟨t, ht⟩ := starts_prefix l _ r h
      exact ⟨_, by rw [ht, List.append_assoc]⟩
theorem walk_ext {st t : List Int} (h : okSt st) : ∀ (ks : List Int) (a : Int), a < st.length → walkKids (st ++ t) ks a = walkKids st ks a
  | [], a, _ => rfl
  | k :: ks, a, ha => by
    rw [walkKids, walkKids]
    split
    · rfl
    · rename_i hc
      have hk : k.toNat < st.length := by omega
      have e : (st ++ t)[k.toNat]? = st[k.toNat]? := List.getElem?_append_left hk
      rw [e]
      have hz := okSt_get h k.toNat
      exact walk_ext h ks _ (by omega)
theorem starts_at : ∀ (l : List (List Int)) (st r : List Int), okSt st → startsL st l = some r → ∀ (i : Nat) n, l[i]? = some n → ∃ a, walkKids r n.reverse ((st.length : Int) + i - 1) = some a ∧ r[st.length + i]? = some (a + 1)
  | [], st, r, h0, h, i, n, hn => by simp at hn
  | m :: l, st, r, h0, h, i, n, hn => by
    rw [startsL] at h
    split at h
    · cases h
    · rename_i a ha
      have hr := walk_range h0 _ _ _ (by omega) (by omega) ha
      obtain ⟨t, ht⟩ := starts_prefix l _ r h
      cases i with
      | zero =>
        simp only [List.getElem?_cons_zero, Option.some.injEq] at hn
        subst hn
        refine ⟨a, ?_, ?_⟩
        · rw [ht, List.append_assoc, walk_ext h0 _ _ (by simp; omega)]
          simpa using ha
        · rw [ht]
          simp
      | succ i =>
        simp only [List.getElem?_cons_succ] at hn
        obtain ⟨b, h1, h2⟩ := starts_at l _ r (okSt_snoc h0 hr.1 hr.2) h i n hn
        refine ⟨b, ?_, ?_⟩
        · rw [← h1]
          congr 1
          simp
          omega
        · rw [← h2]
          congr 1
          simp
          omega
def sumI : List Int → Int
  | [] => 0
  | x :: l => x + sumI l
theorem sumI_append : ∀ (a b : List Int), sumI (a ++ b) = sumI a + sumI b
  | [], b => by simp [sumI]
  | x :: a, b => by
    rw [List.cons_append, sumI, sumI, sumI_append a b]
    omega
theorem sumI_reverse : ∀ l : List Int, sumI l.reverse = sumI l
  | [] => rfl
  | x :: l => by
    rw [List.reverse_cons, sumI_append, sumI_reverse l]
    simp [sumI]
    omega
def sz (r : List Int) (k : Int) : Int := k - (r[k.toNat]?.getD 0) + 1
theorem walk_sum (r : List Int) : ∀ (ks : List Int) (a b : Int), walkKids r ks a = some b → sumI (ks.map (sz r)) = a - b
  | [], a, b, h => by
    rw [walkKids] at h
    cases h
    simp [sumI]
  | k :: ks, a, b, h => by
    rw [walkKids] at h
    split at h
    · cases h
    · rename_i hc
      have := walk_sum r ks _ b h
      rw [List.map_cons, sumI, this, sz]
      omega
structure Val (l : List Nd) (r : List Int) : Prop where
  st : startsL [] (ks l) = some r
  pos : 1 ≤ l.length
  le : l.length ≤ 400
theorem val_of {l : List Nd} (h : lshape l = true) : ∃ r, Val l r := by
  have hl := shape_len h
  unfold lshape at h
  cases hs : startsOk (ks l) with
  | none => rw [hs] at h; cases h
  | some r =>
    unfold startsOk at hs
    split at hs
    · exact ⟨r, hs, hl.1, hl.2⟩
    · cases hs
section
variable {l : List Nd} {r : List Int}
theorem Val.len (h : Val l r) : r.length = l.length := by
  have := starts_len _ _ _ h.st
  rw [ks_length] at this
  simpa using this
theorem Val.ok (h : Val l r) : okSt r := starts_ok _ _ _ okSt_nil h.st
theorem Val.kids (h : Val l r) {i : Nat} {n : Nd} (hn : l[i]? = some n) : ∀ k, k ∈ n.kids → 0 ≤ k ∧ k < i := by
  have := starts_kids _ _ _ okSt_nil h.st i n.kids (by simp [ks, hn])
  simpa using this
theorem Val.sum (h : Val l r) {i : Nat} {n : Nd} (hn : l[i]? = some n) : sumI (n.kids.map (sz r)) + 1 = sz r i := by
  obtain ⟨a, h1, h2⟩ := starts_at _ _ _ okSt_nil h.st i n.kids (by simp [ks, hn])
  have := walk_sum r _ _ _ h1
  rw [List.map_reverse, sumI_reverse] at this
  simp at h2
  rw [this, sz, Int.toNat_natCast, h2]
  simp
  omega
theorem Val.sz_pos (h : Val l r) {k : Int} (h0 : 0 ≤ k) : 1 ≤ sz r k ∧ sz r k ≤ k + 1 := by
  have := okSt_get h.ok k.toNat
  rw [sz]
  omega
end
def kidsOf (l : List Nd) (i : Nat) : List Int := match l[i]? with | some n => n.kids | none => []
theorem kidsOf_at {l : List Nd} {i : Nat} {n : Nd} (h : l[i]? = some n) : kidsOf l i = n.kids := by rw [kidsOf, h]
end Go.Proofs.Ytghbceiigeialaa
