/-
  The nodes of a tree in preorder: both programs answer alike.
-/
import Derived.Test.YtfbemlhfieemhaaShape
import Derived.Test.YtfbemlhfieemhaaForms2
namespace Go.Proofs.Ytfbemlhfieemhaa
set_option linter.unusedVariables false
set_option linter.unusedSimpArgs false
open Go Go.Vm

/-! ### sizes in a valid tree -/
theorem starts_prefix : ∀ (l : List (List Int)) (st r : List Int), startsL st l = some r → ∃ t, r = st ++ t
  | [], st, r, h => by
    rw [startsL] at h
    cases h
    exact ⟨[], by simp⟩
  | n :: l, st, r, h => by
    rw [startsL] at h
    split at h
    · cases h
    · obtain ⟨t, ht⟩ := starts_prefix l _ r h
      exact ⟨_, by rw [ht, List.append_assoc]⟩
theorem walk_ext {st t : List Int} (h : okSt st) : ∀ (ks : List Int) (a : Int), a < st.length → walkKids (st ++ t) ks a = walkKids st ks a
  | [], a, _ => rfl
  | k :: ks, a, ha => by
    rw [walkKids, walkKids]
    split
    · rfl
    · rename_i hc
      have hk : k.toNat < st.length := by omega
      have e : (st ++ t)[k.toNat]? = st[k.toNat]? := List.getElem?_append_left hk
      rw [e]
      have hz := okSt_get h k.toNat
      exact walk_ext h ks _ (by omega)
/-- each node's start is what its kids say -/
theorem starts_at : ∀ (l : List (List Int)) (st r : List Int), okSt st → startsL st l = some r → ∀ (i : Nat) n, l[i]? = some n → ∃ a, walkKids r n.reverse ((st.length : Int) + i - 1) = some a ∧ r[st.length + i]? = some (a + 1)
  | [], st, r, h0, h, i, n, hn => by simp at hn
  | m :: l, st, r, h0, h, i, n, hn => by
    rw [startsL] at h
    split at h
    · cases h
    · rename_i a ha
      have hr := walk_range h0 _ _ _ (by omega) (by omega) ha
      obtain ⟨t, ht⟩ := starts_prefix l _ r h
      cases i with
      | zero =>
        simp only [List.getElem?_cons_zero, Option.some.injEq] at hn
        subst hn
        refine ⟨a, ?_, ?_⟩
        · rw [ht, List.append_assoc, walk_ext h0 _ _ (by simp; omega)]
          simpa using ha
        · rw [ht]
          simp
      | succ i =>
        simp only [List.getElem?_cons_succ] at hn
        obtain ⟨b, h1, h2⟩ := starts_at l _ r (okSt_snoc h0 hr.1 hr.2) h i n hn
        refine ⟨b, ?_, ?_⟩
        · rw [← h1]
          congr 1
          simp
          omega
        · rw [← h2]
          congr 1
          simp
          omega
def sumI : List Int → Int
  | [] => 0
  | x :: l => x + sumI l
theorem sumI_append : ∀ (a b : List Int), sumI (a ++ b) = sumI a + sumI b
  | [], b => by simp [sumI]
  | x :: a, b => by
    rw [List.cons_append, sumI, sumI, sumI_append a b]
    omega
theorem sumI_reverse : ∀ l : List Int, sumI l.reverse = sumI l
  | [] => rfl
  | x :: l => by
    rw [List.reverse_cons, sumI_append, sumI_reverse l]
    simp [sumI]
    omega
/-- how many nodes are under k -/
def sz (r : List Int) (k : Int) : Int := k - (r[k.toNat]?.getD 0) + 1
theorem walk_sum (r : List Int) : ∀ (ks : List Int) (a b : Int), walkKids r ks a = some b → sumI (ks.map (sz r)) = a - b
  | [], a, b, h => by
    rw [walkKids] at h
    cases h
    simp [sumI]
  | k :: ks, a, b, h => by
    rw [walkKids] at h
    split at h
    · cases h
    · rename_i hc
      have := walk_sum r ks _ b h
      rw [List.map_cons, sumI, this, sz]
      omega
/-- a valid tree and its starts -/
structure Val (l : List Nd) (r : List Int) : Prop where
  st : startsL [] (ks l) = some r
  pos : 1 ≤ l.length
  le : l.length ≤ 400
theorem val_of {l : List Nd} (h : shape l = true) : ∃ r, Val l r := by
  have hl := shape_len h
  unfold shape at h
  cases hs : startsOk (ks l) with
  | none => rw [hs] at h; cases h
  | some r =>
    unfold startsOk at hs
    split at hs
    · exact ⟨r, hs, hl.1, hl.2⟩
    · cases hs
section
variable {l : List Nd} {r : List Int}
theorem Val.len (h : Val l r) : r.length = l.length := by
  have := starts_len _ _ _ h.st
  rw [ks_length] at this
  simpa using this
theorem Val.ok (h : Val l r) : okSt r := starts_ok _ _ _ okSt_nil h.st
theorem Val.kids (h : Val l r) {i : Nat} {n : Nd} (hn : l[i]? = some n) : ∀ k, k ∈ n.kids → 0 ≤ k ∧ k < i := by
  have := starts_kids _ _ _ okSt_nil h.st i n.kids (by simp [ks, hn])
  simpa using this
theorem Val.sum (h : Val l r) {i : Nat} {n : Nd} (hn : l[i]? = some n) : sumI (n.kids.map (sz r)) + 1 = sz r i := by
  obtain ⟨a, h1, h2⟩ := starts_at _ _ _ okSt_nil h.st i n.kids (by simp [ks, hn])
  have := walk_sum r _ _ _ h1
  rw [List.map_reverse, sumI_reverse] at this
  simp at h2
  rw [this, sz, Int.toNat_natCast, h2]
  simp
  omega
theorem Val.sz_pos (h : Val l r) {k : Int} (h0 : 0 ≤ k) : 1 ≤ sz r k ∧ sz r k ≤ k + 1 := by
  have := okSt_get h.ok k.toNat
  rw [sz]
  omega
end
/-! ### preorder -/
def kidsOf (l : List Nd) (i : Nat) : List Int := match l[i]? with | some n => n.kids | none => []
def pre (l : List Nd) : Nat → Nat → List Int
  | 0, _ => []
  | f + 1, i => (i : Int) :: (kidsOf l i).flatMap fun k => pre l f k.toNat
theorem flat_len (f : Int → List Int) (g : Int → Int) : ∀ (ks : List Int), (∀ k, k ∈ ks → ((f k).length : Int) = g k) → ((ks.flatMap f).length : Int) = sumI (ks.map g)
  | [], _ => by simp [sumI]
  | k :: ks, h => by
    rw [List.flatMap_cons, List.length_append, List.map_cons, sumI, ← flat_len f g ks (fun x hx => h x (List.mem_cons_of_mem _ hx)), ← h k List.mem_cons_self]
    omega
theorem pre_len {l : List Nd} {r : List Int} (h : Val l r) : ∀ (f i : Nat), i < f → i < l.length → ((pre l f i).length : Int) = sz r i
  | 0, i, hf, _ => absurd hf (Nat.not_lt_zero _)
  | f + 1, i, hf, hi => by
    obtain ⟨n, hn⟩ : ∃ n, l[i]? = some n := ⟨l[i], by simp⟩
    rw [pre, kidsOf, hn]
    simp only [List.length_cons]
    have hk := h.kids hn
    have := flat_len (fun k => pre l f k.toNat) (sz r) n.kids (fun k hkm => by
      have hk' := hk k hkm
      have := pre_len h f k.toNat (by omega) (by omega)
      rw [this, Int.toNat_of_nonneg hk'.1])
    rw [← h.sum hn, ← this]
    omega
theorem flat_take_len (f : Int → List Int) (ks : List Int) (j : Nat) : ((ks.take j).flatMap f).length ≤ (ks.flatMap f).length := by
  have : ks.flatMap f = (ks.take j).flatMap f ++ (ks.drop j).flatMap f := by rw [← List.flatMap_append, List.take_append_drop]
  rw [this, List.length_append]
  omega
theorem flat_take_succ (f : Int → List Int) (ks : List Int) {j : Nat} {k : Int} (h : ks[j]? = some k) : (ks.take (j + 1)).flatMap f = (ks.take j).flatMap f ++ f k := by
  rw [List.take_add_one, h, Option.toList_some, List.flatMap_append]
  simp
theorem encI_append (a b : List Int) : encI a ++ encI b = encI (a ++ b) := by simp [encI]
section
variable {l : List Nd} {r : List Int} {o : Bool}
theorem spec_pre_ok (h : Val l r) (hk : ∀ n, n ∈ l → n.kids.length ≤ 1048576) : ∀ (f i : Nat), i < f → i < l.length → M.spec_l44Pre_N f (encNs o l) (i : Int) = some (encI (pre l f i))
  | 0, i, hf, _ => absurd hf (Nat.not_lt_zero _)
  | f + 1, i, hf, hi => by
    obtain ⟨n, hn⟩ : ∃ n, l[i]? = some n := ⟨l[i], by simp⟩
    have hkn := hk n (List.mem_of_getElem? hn)
    have hkl := h.kids hn
    have hlen : (((i : Int) :: n.kids.flatMap fun k => pre l f k.toNat).length : Int) = sz r i := by
      have := pre_len h (f + 1) i hf hi
      rw [pre, kidsOf, hn] at this
      exact this
    have hsz := (h.sz_pos (k := (i : Int)) (by omega)).2
    have hle := h.le
    have hloop := loopM_run (b := M.spec_l44Pre_l3_b (M.spec_l44Pre_N f) (encNs o l) (i : Int)) (t := ((n.kids.length : Int), false, encI ((i : Int) :: n.kids.flatMap fun k => pre l f k.toNat)))
      (fun j => ((j : Int), encI ((i : Int) :: (n.kids.take j).flatMap fun k => pre l f k.toNat))) n.kids.length
      (by
        intro j hj
        obtain ⟨k, hkj⟩ : ∃ k, n.kids[j]? = some k := ⟨n.kids[j], by simp⟩
        have hkr := hkl k (List.mem_of_getElem? hkj)
        have hrec := spec_pre_ok h hk f k.toNat (by omega) (by omega)
        rw [Int.toNat_of_nonneg hkr.1] at hrec
        have hsucc := flat_take_succ (fun k => pre l f k.toNat) n.kids hkj
        have htl := flat_take_len (fun k => pre l f k.toNat) n.kids (j + 1)
        rw [hsucc, List.length_append] at htl
        simp only [List.length_cons] at hlen
        simp only [M.spec_l44Pre_l3_b, M.spec_l44Pre_l3_C, idx_nat, get_encNs, hn, Option.map_some, some_bind, cN4, encI_length, get_encI, hkj, cI0, hrec, List.length_cons]
        rw [decide_eq_true (by omega), cond_true, ble_ok (by omega), cond_true, ble_ok (by omega), cond_true, wrap_ok (by omega) (by omega), encI_append, hsucc]
        rfl)
      (by
        simp only [M.spec_l44Pre_l3_b, M.spec_l44Pre_l3_C, idx_nat, get_encNs, hn, Option.map_some, some_bind, cN4, encI_length]
        rw [decide_eq_false (by omega), cond_false, List.take_length]) 0 (Nat.zero_le _)
    simp only [M.spec_l44Pre_N, M.spec_l44Pre_C, M.spec_l44Pre_l3]
    have e0 : encI ((i : Int) :: (n.kids.take 0).flatMap fun k => pre l f k.toNat) = [[D.int IntKind.i64 (i : Int)]] := rfl
    rw [e0] at hloop
    refine (show _ = _ from congrArg (Option.bind · _) hloop).trans ?_
    simp only [some_bind, flat_encI, cond_true]
    rw [pre, kidsOf, hn]
theorem impl_pre_ok (h : Val l r) (hk : ∀ n, n ∈ l → n.kids.length ≤ 1048576) : ∀ (f i : Nat) (out : List Int), i < f → i < l.length → (out.length : Int) + sz r i ≤ 1000000 → M.impl_preorder_N f (encNs o l) (i : Int) (encI out) = some (encI (out ++ pre l f i))
  | 0, i, _, hf, _, _ => absurd hf (Nat.not_lt_zero _)
  | f + 1, i, out, hf, hi, hout => by
    obtain ⟨n, hn⟩ : ∃ n, l[i]? = some n := ⟨l[i], by simp⟩
    have hkn := hk n (List.mem_of_getElem? hn)
    have hkl := h.kids hn
    have hlen : (((i : Int) :: n.kids.flatMap fun k => pre l f k.toNat).length : Int) = sz r i := by
      have := pre_len h (f + 1) i hf hi
      rw [pre, kidsOf, hn] at this
      exact this
    have hsz := (h.sz_pos (k := (i : Int)) (by omega))
    have hle := h.le
    have hloop := loopM_run (b := M.impl_preorder_l3_b (M.impl_preorder_N f) (encNs o l) (encI n.kids) (n.kids.length : Int)) (t := ((n.kids.length : Int), false, encI (out ++ [(i : Int)] ++ n.kids.flatMap fun k => pre l f k.toNat)))
      (fun j => ((j : Int), encI (out ++ [(i : Int)] ++ (n.kids.take j).flatMap fun k => pre l f k.toNat))) n.kids.length
      (by
        intro j hj
        obtain ⟨k, hkj⟩ : ∃ k, n.kids[j]? = some k := ⟨n.kids[j], by simp⟩
        have hkr := hkl k (List.mem_of_getElem? hkj)
        have hsucc := flat_take_succ (fun k => pre l f k.toNat) n.kids hkj
        have htl := flat_take_len (fun k => pre l f k.toNat) n.kids (j + 1)
        rw [hsucc, List.length_append] at htl
        have hkl2 := pre_len h f k.toNat (by omega) (by omega)
        rw [Int.toNat_of_nonneg hkr.1] at hkl2
        simp only [List.length_cons] at hlen
        have hrec := impl_pre_ok h hk f k.toNat (out ++ [(i : Int)] ++ (n.kids.take j).flatMap fun k => pre l f k.toNat) (by omega) (by omega) (by
          rw [Int.toNat_of_nonneg hkr.1, ← hkl2]
          simp only [List.length_append, List.length_singleton]
          omega)
        rw [Int.toNat_of_nonneg hkr.1] at hrec
        simp only [M.impl_preorder_l3_b, M.impl_preorder_l3_C, idx_nat, get_encI, hkj, Option.map_some, some_bind, cI0, flat_encI, cond_true, hrec]
        rw [decide_eq_true (by omega), cond_true, wrap_ok (by omega) (by omega), hsucc, ← List.append_assoc]
        rfl)
      (by
        simp only [M.impl_preorder_l3_b, M.impl_preorder_l3_C]
        rw [decide_eq_false (by omega), cond_false, List.take_length]) 0 (Nat.zero_le _)
    simp only [M.impl_preorder_N, M.impl_preorder_C, M.impl_preorder_l3, encI_length, List.length_singleton, idx_nat, get_encNs, hn, Option.map_some, some_bind, cN4]
    rw [ble_ok (by omega), cond_true, ble_ok (by omega), cond_true]
    have e0 : encI (out ++ [(i : Int)] ++ (n.kids.take 0).flatMap fun k => pre l f k.toNat) = encI out ++ [[D.int IntKind.i64 (i : Int)]] := by simp [encI]
    rw [e0] at hloop
    refine (show _ = _ from congrArg (Option.bind · _) hloop).trans ?_
    simp only [some_bind, flat_encI, cond_true]
    rw [pre, kidsOf, hn, List.append_assoc]
    rfl
end
def preAll (l : List Nd) : List Int := if shape l then pre l l.length (l.length - 1) else []
theorem preAll_len (l : List Nd) : (preAll l).length ≤ 400 := by
  unfold preAll
  split
  · rename_i hs
    obtain ⟨r, h⟩ := val_of hs
    have h1 := h.pos
    have h2 := h.le
    have := pre_len h l.length (l.length - 1) (by omega) (by omega)
    have := (h.sz_pos (k := ((l.length - 1 : Nat) : Int)) (by omega)).2
    omega
  · simp
theorem spec_Preorder_ok (l : List Nd) (o : Bool) (hl : l.length ≤ 1048576) (hk : ∀ n, n ∈ l → n.kids.length ≤ 1048576) : M.spec_Preorder (encNs o l) = some (encI (preAll l)) := by
  simp only [M.spec_Preorder, M.spec_Preorder_C, spec_ShapeOk_ok l o hl hk, some_bind, encNs_length, preAll]
  cases hs : shape l with
  | false => rfl
  | true =>
    obtain ⟨r, h⟩ := val_of hs
    have h1 := h.pos
    have h2 := h.le
    rw [Bool.not_true, cond_false, wrap_ok (by omega) (by omega), show (l.length : Int) - 1 = ((l.length - 1 : Nat) : Int) by omega,
      M.spec_l44Pre_of (spec_pre_ok (o := o) h hk l.length (l.length - 1) (by omega) (by omega)), some_bind, flat_encI, cond_true, if_pos rfl]
theorem impl_Preorder_ok (l : List Nd) (o : Bool) (hl : l.length ≤ 1048576) (hk : ∀ n, n ∈ l → n.kids.length ≤ 1048576) : M.impl_Preorder (encNs o l) = some (encI (preAll l)) := by
  simp only [M.impl_Preorder, M.impl_Preorder_C, impl_ShapeOk_ok l o hl hk, some_bind, encNs_length, preAll]
  cases hs : shape l with
  | false => rfl
  | true =>
    obtain ⟨r, h⟩ := val_of hs
    have h1 := h.pos
    have h2 := h.le
    have h3 := (h.sz_pos (k := ((l.length - 1 : Nat) : Int)) (by omega)).2
    have h4 := impl_pre_ok (o := o) h hk l.length (l.length - 1) [] (by omega) (by omega) (by simp; omega)
    rw [List.nil_append, show encI ([] : List Int) = [] from rfl] at h4
    rw [Bool.not_true, cond_false, wrap_ok (by omega) (by omega), show (l.length : Int) - 1 = ((l.length - 1 : Nat) : Int) by omega,
      M.impl_preorder_of h4, some_bind, flat_encI, cond_true, if_pos rfl]
end Go.Proofs.Ytfbemlhfieemhaa
