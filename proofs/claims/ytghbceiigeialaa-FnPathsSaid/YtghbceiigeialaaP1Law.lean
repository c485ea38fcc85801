import Derived.Test.YtghbceiigeialaaP1Sub
import Derived.Test.YtghbceiigeialaaDBent
namespace Go.Proofs.Ytghbceiigeialaa
set_option linter.unusedVariables false
set_option linter.unusedSimpArgs false
open Go Go.Vm
theorem allP_iff {α : Type} (p : Nat → α → Bool) : ∀ (l : List α) (i : Nat), allP p l i = true ↔ ∀ j x, l[j]? = some x → p (i + j) x = true
  | [], i => by simp [allP]
  | y :: l, i => by
    rw [allP, Bool.and_eq_true, allP_iff p l (i + 1)]
    constructor
    · rintro ⟨h1, h2⟩ j x hx
      cases j with
      | zero => rw [List.getElem?_cons_zero] at hx; cases hx; exact h1
      | succ j => rw [List.getElem?_cons_succ] at hx; have := h2 j x hx; rwa [show i + 1 + j = i + (j + 1) by omega] at this
    · intro h
      exact ⟨h 0 y rfl, fun j x hx => by have := h (j + 1) x (by simpa using hx); rwa [show i + 1 + j = i + (j + 1) by omega]⟩
def nodeB (n m : Nd) : Bool := n.kind == m.kind && (n.op == m.op && (n.text == m.text && (n.other == m.other && decide (n.kids = m.kids))))
theorem nodeB_iff (n m : Nd) : nodeB n m = true ↔ n = m := by
  cases n; cases m
  simp [nodeB]
def atB (b : List Nd) (i : Nat) (n : Nd) : Bool := match b[i]? with
  | some m => nodeB n m
  | none => false
theorem same_iff {a b : List Nd} (hl : a.length = b.length) : allP (atB b) a 0 = true ↔ a = b := by
  rw [allP_iff]
  constructor
  · intro h
    apply List.ext_getElem?
    intro i
    by_cases hi : i < a.length
    · have := h i a[i] (by simp [hi])
      rw [Nat.zero_add, atB, List.getElem?_eq_getElem (by omega)] at this
      rw [List.getElem?_eq_getElem hi, List.getElem?_eq_getElem (by omega), (nodeB_iff _ _).1 this]
    · rw [List.getElem?_eq_none (by omega), List.getElem?_eq_none (by omega)]
  · rintro rfl j x hx
    rw [Nat.zero_add, atB, hx]
    exact (nodeB_iff _ _).2 rfl
theorem same_ok (a b : List Nd) (o o' : Bool) (ha : a.length ≤ 1048576) (hk : ∀ n, n ∈ a → n.kids.length ≤ 1048576) : ∃ x, M.spec_SameTree (encNs o a) (encNs o' b) = some x ∧ (x = true ↔ a = b) := by
  simp only [M.spec_SameTree, M.spec_SameTree_C, encNs_length]
  by_cases hl : a.length = b.length
  · have hloop := all_loop (b := M.spec_SameTree_l4_b (encNs o a) (encNs o' b)) a (atB b) (fun i n hn => by
      have hlt := (List.getElem?_eq_some_iff.1 hn).1
      obtain ⟨m, hm⟩ : ∃ m, b[i]? = some m := ⟨b[i], by simp⟩
      obtain ⟨z, e, hz⟩ := ints_ok n.kids m.kids (hk n (List.mem_of_getElem? hn))
      have hz' : z = decide (n.kids = m.kids) := by
        cases z with
        | true => rw [decide_eq_true (hz.1 rfl)]
        | false => rw [decide_eq_false (fun h => by have := hz.2 h; cases this)]
      simp only [M.spec_SameTree_l4_b, M.spec_SameTree_l4_C, encNs_length, idx_nat, get_encNs, hn, hm, Option.map_some, some_bind, cN0, cN1, cN2, cN3, cN4, e, atB, nodeB, hz', bne]
      rw [decide_eq_true (by omega), cond_true, wrap_ok (by omega) (by omega)]
      cases n.kind == m.kind <;> cases n.op == m.op <;> cases n.text == m.text <;> cases n.other == m.other <;> cases decide (n.kids = m.kids) <;> rfl) (by
      simp only [M.spec_SameTree_l4_b, M.spec_SameTree_l4_C, encNs_length]
      rw [decide_eq_false (by omega), cond_false])
    have e : M.spec_SameTree_l4 (encNs o a) (encNs o' b) 0 = _ := hloop
    have hk := same_iff hl
    rw [e]
    refine ⟨allP (atB b) a 0, ?_, hk⟩
    rw [hl]
    cases allP (atB b) a 0 <;> simp [sumE, letE]
  · refine ⟨false, ?_, by simp; intro h; exact hl (by rw [h])⟩
    rw [show ((a.length : Int) != (b.length : Int)) = true from by simp; omega]
    rfl
theorem lsame_ok (a : List Int) (ha : a.length ≤ 1048576) : M.laws_sameInts (encI a) (encI a) = some true := by
  have := loopM_run (b := M.laws_sameInts_l4_b (encI a) (encI a)) (t := .inr (a.length : Int)) (fun i => (i : Int)) a.length
    (by
      intro i hi
      obtain ⟨x, hx⟩ : ∃ x, a[i]? = some x := ⟨a[i], by simp⟩
      simp only [M.laws_sameInts_l4_b, M.laws_sameInts_l4_C, encI_length, idx_nat, get_encI, hx, Option.map_some, some_bind, cI0]
      rw [decide_eq_true (by omega), cond_true, wrap_ok (by omega) (by omega)]
      simp)
    (by
      simp only [M.laws_sameInts_l4_b, M.laws_sameInts_l4_C, encI_length]
      rw [decide_eq_false (by omega), cond_false]) 0 (Nat.zero_le _)
  have e : M.laws_sameInts_l4 (encI a) (encI a) 0 = _ := this
  simp only [M.laws_sameInts, M.laws_sameInts_C, e, some_bind]
  simp [sumE, letE]
theorem has_ok (p : List Int) (k : Int) (hp : p.length ≤ 1048576) (hk : k ∈ p) : M.laws_has (encI p) k = some true := by
  obtain ⟨j, hj⟩ := List.mem_iff_getElem?.1 hk
  have hjl := (List.getElem?_eq_some_iff.1 hj).1
  have key : ∀ (d i : Nat), i + d = j → loopM (M.laws_has_l2_b (encI p) k) (i : Int) = some (.inl ()) := by
    intro d
    induction d with
    | zero =>
      intro i hi
      have : i = j := by omega
      subst this
      apply loopM_end
      simp only [M.laws_has_l2_b, M.laws_has_l2_C, encI_length, idx_nat, get_encI, hj, Option.map_some, some_bind, cI0]
      rw [decide_eq_true (by omega), cond_true]
      simp
    | succ d ih =>
      intro i hi
      obtain ⟨x, hx⟩ : ∃ x, p[i]? = some x := ⟨p[i], by simp⟩
      by_cases hxk : x = k
      · apply loopM_end
        simp only [M.laws_has_l2_b, M.laws_has_l2_C, encI_length, idx_nat, get_encI, hx, Option.map_some, some_bind, cI0]
        rw [decide_eq_true (by omega), cond_true, hxk]
        simp
      · rw [← ih (i + 1) (by omega)]
        apply loopM_next
        simp only [M.laws_has_l2_b, M.laws_has_l2_C, encI_length, idx_nat, get_encI, hx, Option.map_some, some_bind, cI0]
        rw [decide_eq_true (by omega), cond_true, show (x == k) = false from by simp [hxk], cond_false, wrap_ok (by omega) (by omega)]
        rfl
  have := key j 0 (by omega)
  have e : M.laws_has_l2 (encI p) k 0 = _ := this
  simp only [M.laws_has, M.laws_has_C, e, some_bind]
  rfl
theorem apart_law (c : List UInt8) (hc : c.length ≤ 1048576) : ∃ (a b : List Nd) (o : Bool), M.spec_DrawFirstApart (c.map byteRow) = some (false, encNs false a, true, encNs o b) ∧ Few a ∧ Few b := by
  obtain ⟨a, b, o, h1, h2, h3⟩ := drawApart_ok c hc
  exact ⟨a, b, o, h1, h2.few, h3⟩
theorem Few.l {l : List Nd} (h : Few l) : l.length ≤ 1048576 := Nat.le_trans h.len (by decide)
theorem Few.k {l : List Nd} (h : Few l) : ∀ n, n ∈ l → n.kids.length ≤ 1048576 := fun n hn => Nat.le_trans (h.kids n hn) (by decide)
theorem nodeBy_nil (l : List Nd) (hs : lshape l = true) : nodeBy l [] = (l.length : Int) - 1 := by rw [nodeBy, if_pos hs]; rfl
theorem apart_cases {a b : List Nd} (ha : lshape a = true) (hb : lshape b = true) :
    (nodeBy a (firstApart a b) = (a.length : Int) - 1 ∧ nodeBy b (firstApart a b) = (b.length : Int) - 1) ∨
    (a ≠ b ∧ ∃ x y : Nat, nodeBy a (firstApart a b) = x ∧ nodeBy b (firstApart a b) = y ∧ x < a.length ∧ y < b.length ∧ differ (nodeAt a x) (nodeAt b y) = true) := by
  obtain ⟨r, h⟩ := val_of ha
  obtain ⟨s, h'⟩ := val_of hb
  have h1 := h.pos
  have h2 := h'.pos
  unfold firstApart
  rw [ha, hb, Bool.and_true, if_pos rfl]
  cases hp : ap a b (a.length + b.length) ((a.length - 1 : Nat) : Int) ((b.length - 1 : Nat) : Int) with
  | none => exact .inl ⟨nodeBy_nil a ha, nodeBy_nil b hb⟩
  | some p =>
    obtain ⟨x, y, k1, k2, k3, k4⟩ := ap_end h h' _ _ _ p (by omega) (by omega) hp
    obtain ⟨k5, k6⟩ := k4 p
    refine .inr ⟨?_, x, y, ?_, ?_, k1, k2, k3⟩
    · rintro rfl
      rw [k5] at k6
      injection k6 with k6
      injection k6 with k6 _
      rw [k6, differ_self] at k3
      cases k3
    · rw [nodeBy, if_pos ha, show (a.length : Int) - 1 = ((a.length - 1 : Nat) : Int) by omega, Option.getD_some, k5]
    · rw [nodeBy, if_pos hb, show (b.length : Int) - 1 = ((b.length - 1 : Nat) : Int) by omega, Option.getD_some, k6]
theorem path_back {l : List Nd} (hs : lshape l = true) {i : Nat} (hi : i < l.length) : nodeBy l (pathOf l i) = i ∧ ((pathOf l i).length : Int) < depth l := by
  obtain ⟨r, h⟩ := val_of hs
  have h1 := h.pos
  obtain ⟨p, hp⟩ := pt_total h (shape_zero h hs) i (l.length - 1 - i) i [] (by omega) (pt_self h i)
  have e : pathOf l i = p := by
    rw [pathOf, hs, decide_eq_true (by omega), decide_eq_true (by omega), hp]
    rfl
  rw [e]
  refine ⟨?_, ?_⟩
  · rw [nodeBy, if_pos hs, show (l.length : Int) - 1 = ((l.length - 1 : Nat) : Int) by omega, nb_pt h _ _ _ _ (by omega) hp p]
  · rw [depth, if_pos hs]
    exact pt_dep h _ _ _ _ (by omega) hp
theorem pre_facts {l : List Nd} (hs : lshape l = true) : (preAll l).length = l.length ∧ (∃ t, preAll l = ((l.length : Int) - 1) :: t) ∧ ∀ k : Nat, k < l.length → (k : Int) ∈ preAll l := by
  obtain ⟨r, h⟩ := val_of hs
  have h1 := h.pos
  have h0 := shape_zero h hs
  rw [preAll, if_pos hs]
  refine ⟨?_, ?_, fun k hk => pre_all h _ _ _ (by omega) (by omega) (by rw [h0]; omega) (by omega)⟩
  · have := pre_len h l.length (l.length - 1) (by omega) (by omega)
    rw [sz] at this
    rw [sta] at h0
    omega
  · obtain ⟨f, hf⟩ : ∃ f, l.length = f + 1 := ⟨l.length - 1, by omega⟩
    refine ⟨(kidsOf l (l.length - 1)).flatMap fun k => pre l f k.toNat, ?_⟩
    rw [hf, pre]
    congr 1
    omega
end Go.Proofs.Ytghbceiigeialaa
