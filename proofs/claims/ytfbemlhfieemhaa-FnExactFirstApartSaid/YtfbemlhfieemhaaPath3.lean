/-
  The path to a node: the reference's.
-/
import Derived.Test.YtfbemlhfieemhaaPath2
namespace Go.Proofs.Ytfbemlhfieemhaa
set_option linter.unusedVariables false
set_option linter.unusedSimpArgs false
open Go Go.Vm

def hasKid (n : Nd) (i : Int) : Bool := n.kids.any fun k => k == i
def parStep (i : Int) (w : Int) (n : Nd) : Int ⊕ (Int ⊕ (Int × Bool)) := if hasKid n i then .inr (.inl w) else .inl (w + 1)
def kidStep (i : Int) (_ : Unit) (k : Int) : Unit ⊕ (Unit ⊕ (Int × Bool)) := if k == i then .inr (.inl ()) else .inl ()
theorem foldE_kid (i len : Int) : ∀ ks : List Int, foldE (kidStep i) (fun _ => .inr (len, false)) ks () = if ks.any (fun k => k == i) then .inl () else .inr (len, false)
  | [] => rfl
  | k :: ks => by
    rw [foldE, kidStep, List.any_cons]
    cases k == i with
    | true => rfl
    | false => exact foldE_kid i len ks
def par (l : List Nd) (i : Int) : Int := match foldE (parStep i) (fun _ => .inr ((l.length : Int), false)) l 0 with
  | .inl k => k
  | .inr _ => -1
theorem foldE_par (i len : Int) : ∀ (l : List Nd) (w : Nat), (∃ (q : Nat) (n : Nd), l[q]? = some n ∧ i ∈ n.kids ∧ foldE (parStep i) (fun _ => .inr (len, false)) l (w : Int) = .inl ((w + q : Nat) : Int)) ∨ ((∀ n, n ∈ l → i ∉ n.kids) ∧ foldE (parStep i) (fun _ => .inr (len, false)) l (w : Int) = .inr (len, false))
  | [], w => .inr ⟨fun n hn => absurd hn List.not_mem_nil, rfl⟩
  | n :: l, w => by
    rw [foldE, parStep]
    cases hk : hasKid n i with
    | true =>
      refine .inl ⟨0, n, rfl, ?_, rfl⟩
      obtain ⟨k, h1, h2⟩ := List.any_eq_true.1 hk
      have := beq_iff_eq.1 h2
      subst this
      exact h1
    | false =>
      have hn : i ∉ n.kids := by
        intro hi
        have : hasKid n i = true := List.any_eq_true.2 ⟨i, hi, by simp⟩
        rw [hk] at this
        cases this
      have e : (w : Int) + 1 = ((w + 1 : Nat) : Int) := by omega
      rw [e]
      rcases foldE_par i len l (w + 1) with ⟨q, m, h1, h2, h3⟩ | ⟨h1, h2⟩
      · refine .inl ⟨q + 1, m, h1, h2, ?_⟩
        rw [show w + (q + 1) = w + 1 + q by omega]
        exact h3
      · refine .inr ⟨fun m hm => ?_, h2⟩
        rcases List.mem_cons.1 hm with rfl | hm
        · exact hn
        · exact h1 m hm
theorem par_cases (l : List Nd) (i : Int) : (∃ (q : Nat) (n : Nd), l[q]? = some n ∧ i ∈ n.kids ∧ par l i = (q : Int)) ∨ ((∀ n, n ∈ l → i ∉ n.kids) ∧ par l i = -1) := by
  unfold par
  rcases foldE_par i (l.length : Int) l 0 with ⟨q, n, h1, h2, h3⟩ | ⟨h1, h2⟩
  · refine .inl ⟨q, n, h1, h2, ?_⟩
    have h3' : foldE (parStep i) (fun _ => .inr ((l.length : Int), false)) l 0 = .inl ((0 + q : Nat) : Int) := h3
    rw [h3']
    simp
  · refine .inr ⟨h1, ?_⟩
    have h2' : foldE (parStep i) (fun _ => .inr ((l.length : Int), false)) l 0 = .inr ((l.length : Int), false) := h2
    rw [h2']
section
variable {l : List Nd} {o : Bool}
theorem par_kids_ok {q : Nat} {n : Nd} (hn : l[q]? = some n) (hk : n.kids.length ≤ 1048576) (i : Int) : M.spec_ParentOf_l7 (encNs o l) i (q : Int) 0 = some (if hasKid n i then .inl () else .inr ((n.kids.length : Int), false)) := by
  have := loopM_list (M.spec_ParentOf_l7_b (encNs o l) i (q : Int)) n.kids (fun j (_ : Unit) => (j : Int)) (kidStep i) (fun _ => .inr ((n.kids.length : Int), false)) (fun _ _ => True)
    (by
      intro j k w hj _
      have hjl := (List.getElem?_eq_some_iff.1 hj).1
      simp only [M.spec_ParentOf_l7_b, M.spec_ParentOf_l7_C, idx_nat, get_encNs, hn, Option.map_some, some_bind, cN4, encI_length, get_encI, hj, cI0, kidStep]
      rw [decide_eq_true (by omega), cond_true, wrap_ok (by omega) (by omega)]
      cases k == i <;> rfl)
    (fun _ _ _ _ _ _ _ => trivial)
    (by
      intro w _
      simp only [M.spec_ParentOf_l7_b, M.spec_ParentOf_l7_C, idx_nat, get_encNs, hn, Option.map_some, some_bind, cN4, encI_length]
      rw [decide_eq_false (by omega), cond_false]) () trivial
  rw [foldE_kid] at this
  exact this
theorem spec_ParentOf_ok (hl : l.length ≤ 1048576) (hk : ∀ n, n ∈ l → n.kids.length ≤ 1048576) (hs : shape l = true) (i : Int) : M.spec_ParentOf (encNs o l) i = some (par l i) := by
  simp only [M.spec_ParentOf, M.spec_ParentOf_C, spec_ShapeOk_ok l o hl hk, hs, some_bind, Bool.not_true, cond_false, par]
  have := loopM_list (M.spec_ParentOf_l4_b (encNs o l) i) l (fun j (_ : Int) => (j : Int)) (parStep i) (fun _ => .inr ((l.length : Int), false)) (fun j w => w = j)
    (by
      intro j n w hj hw
      subst hw
      have hjl := (List.getElem?_eq_some_iff.1 hj).1
      simp only [M.spec_ParentOf_l4_b, M.spec_ParentOf_l4_C, encNs_length, par_kids_ok hj (hk n (List.mem_of_getElem? hj)) i, some_bind, parStep]
      rw [decide_eq_true (by omega), cond_true, wrap_ok (by omega) (by omega)]
      cases hasKid n i <;> rfl)
    (by
      intro j n w w' hj hw h'
      subst hw
      rw [parStep] at h'
      split at h'
      · cases h'
      · cases h'
        omega)
    (by
      intro w _
      simp only [M.spec_ParentOf_l4_b, M.spec_ParentOf_l4_C, encNs_length]
      rw [decide_eq_false (by omega), cond_false]) 0 rfl
  rw [nat0] at this
  rw [M.spec_ParentOf_l4, this, some_bind]
  cases foldE (parStep i) (fun _ => .inr ((l.length : Int), false)) l 0 <;> rfl
end
end Go.Proofs.Ytfbemlhfieemhaa
