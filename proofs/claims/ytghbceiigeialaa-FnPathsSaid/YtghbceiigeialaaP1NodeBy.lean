import Derived.Test.YtghbceiigeialaaP1Path4
namespace Go.Proofs.Ytghbceiigeialaa
set_option linter.unusedVariables false
set_option linter.unusedSimpArgs false
open Go Go.Vm
def kidsAt (l : List Nd) (w : Int) : List Int := match l[w.toNat]? with | some n => n.kids | none => []
def nbStep (l : List Nd) (w p : Int) : Int ⊕ (Unit ⊕ (Int × Int)) := if 0 ≤ p ∧ p ≤ ((kidsAt l w).length : Int) - 1 then .inl ((kidsAt l w)[p.toNat]?.getD 0) else .inr (.inl ())
def nbFin (path : List Int) (w : Int) : Unit ⊕ (Int × Int) := .inr (w, (path.length : Int))
def nodeBy (l : List Nd) (path : List Int) : Int := if lshape l then (match foldE (nbStep l) (nbFin path) path ((l.length : Int) - 1) with
    | .inl _ => -1
    | .inr r => r.1) else -1
theorem within_ok (x lo hi : Int) : M.impl_within x lo hi = some (decide (lo ≤ x) && decide (x ≤ hi)) := impl_within_ok x lo hi
section
variable {l : List Nd} {o : Bool} {path : List Int}
theorem node_at {w : Int} (h0 : 0 ≤ w) (h1 : w < l.length) : ∃ n, l[w.toNat]? = some n ∧ idx l w = some n ∧ kidsAt l w = n.kids := by
  obtain ⟨n, h2, h3⟩ := idx_in h0 h1
  exact ⟨n, h3, h2, by rw [kidsAt, h3]⟩
theorem nb_in (hs : lshape l = true) {w p w' : Int} (h0 : 0 ≤ w) (h1 : w < l.length) (h : nbStep l w p = .inl w') : 0 ≤ w' ∧ w' < l.length := by
  obtain ⟨n, h2, _, h3⟩ := node_at h0 h1
  rw [nbStep, h3] at h
  split at h
  · rename_i hc
    cases h
    have hp : p.toNat < n.kids.length := by omega
    rw [List.getElem?_eq_getElem hp, Option.getD_some]
    have := shape_kids hs h2 _ (List.getElem_mem hp)
    omega
  · cases h
theorem spec_nb_loop (hl : l.length ≤ 1048576) (hk : ∀ n, n ∈ l → n.kids.length ≤ 1048576) (hp : path.length ≤ 1048576) (hs : lshape l = true) :
    M.spec_NodeBy_l5 (encNs o l) (encI path) ((l.length : Int) - 1, 0) = some (foldE (nbStep l) (nbFin path) path ((l.length : Int) - 1)) := by
  have hlen := shape_len hs
  have := loopM_list (M.spec_NodeBy_l5_b (encNs o l) (encI path)) path (fun i (w : Int) => (w, (i : Int))) (nbStep l) (nbFin path) (fun _ w => 0 ≤ w ∧ w < l.length)
    (by
      rintro i p w hi ⟨h0, h1⟩
      have hlt := (List.getElem?_eq_some_iff.1 hi).1
      obtain ⟨n, h2, h3, h4⟩ := node_at h0 h1
      have hkn := hk n (List.mem_of_getElem? h2)
      simp only [M.spec_NodeBy_l5_b, M.spec_NodeBy_l5_C, encI_length, idx_encI, idx_nat, get_encI, hi, Option.map_some, some_bind, cI0, idx_encNs, h3, cN4, spec_l1In_ok, nbStep, h4]
      rw [decide_eq_true (by omega), cond_true, wrap_ok (n := (n.kids.length : Int) - 1) (by omega) (by omega)]
      by_cases hc : 0 ≤ p ∧ p ≤ (n.kids.length : Int) - 1
      · rw [if_pos hc]
        have hb : (decide (0 ≤ p) && decide (p ≤ (n.kids.length : Int) - 1)) = true := by simp [hc]
        rw [hb, Bool.not_true, cond_false, wrap_ok (by omega) (by omega)]
        obtain ⟨x, hx1, hx2⟩ := idx_in (l := n.kids) hc.1 (by omega)
        rw [hx1, hx2]
        rfl
      · rw [if_neg hc]
        have hb : (decide (0 ≤ p) && decide (p ≤ (n.kids.length : Int) - 1)) = false := by
          cases hq : (decide (0 ≤ p) && decide (p ≤ (n.kids.length : Int) - 1)) with
          | false => rfl
          | true => simp at hq; exact absurd hq (by omega)
        rw [hb, Bool.not_false, cond_true])
    (by
      rintro i p w w' hi ⟨h0, h1⟩ h
      exact nb_in hs h0 h1 h)
    (by
      intro w _
      simp only [M.spec_NodeBy_l5_b, M.spec_NodeBy_l5_C, encI_length]
      rw [decide_eq_false (by omega), cond_false]
      rfl) ((l.length : Int) - 1) (by omega)
  exact this
theorem impl_nb_loop (hl : l.length ≤ 1048576) (hk : ∀ n, n ∈ l → n.kids.length ≤ 1048576) (hp : path.length ≤ 1048576) (hs : lshape l = true) :
    M.impl_NodeBy_l5 (encNs o l) (encI path) (path.length : Int) ((l.length : Int) - 1, 0) = some (foldE (nbStep l) (nbFin path) path ((l.length : Int) - 1)) := by
  have hlen := shape_len hs
  have := loopM_list (M.impl_NodeBy_l5_b (encNs o l) (encI path) (path.length : Int)) path (fun i (w : Int) => (w, (i : Int))) (nbStep l) (nbFin path) (fun _ w => 0 ≤ w ∧ w < l.length)
    (by
      rintro i p w hi ⟨h0, h1⟩
      have hlt := (List.getElem?_eq_some_iff.1 hi).1
      obtain ⟨n, h2, h3, h4⟩ := node_at h0 h1
      have hkn := hk n (List.mem_of_getElem? h2)
      simp only [M.impl_NodeBy_l5_b, M.impl_NodeBy_l5_C, encI_length, idx_encI, idx_nat, get_encI, hi, Option.map_some, some_bind, cI0, idx_encNs, h3, cN4, within_ok, nbStep, h4]
      rw [decide_eq_true (by omega), cond_true, wrap_ok (n := (n.kids.length : Int) - 1) (by omega) (by omega)]
      by_cases hc : 0 ≤ p ∧ p ≤ (n.kids.length : Int) - 1
      · rw [if_pos hc]
        have hb : (decide (0 ≤ p) && decide (p ≤ (n.kids.length : Int) - 1)) = true := by simp [hc]
        rw [hb, Bool.not_true, cond_false, wrap_ok (by omega) (by omega)]
        obtain ⟨x, hx1, hx2⟩ := idx_in (l := n.kids) hc.1 (by omega)
        rw [hx1, hx2]
        rfl
      · rw [if_neg hc]
        have hb : (decide (0 ≤ p) && decide (p ≤ (n.kids.length : Int) - 1)) = false := by
          cases hq : (decide (0 ≤ p) && decide (p ≤ (n.kids.length : Int) - 1)) with
          | false => rfl
          | true => simp at hq; exact absurd hq (by omega)
        rw [hb, Bool.not_false, cond_true])
    (by
      rintro i p w w' hi ⟨h0, h1⟩ h
      exact nb_in hs h0 h1 h)
    (by
      intro w _
      simp only [M.impl_NodeBy_l5_b, M.impl_NodeBy_l5_C, encI_length]
      rw [decide_eq_false (by omega), cond_false]
      rfl) ((l.length : Int) - 1) (by omega)
  exact this
theorem spec_NodeBy_ok (hl : l.length ≤ 1048576) (hk : ∀ n, n ∈ l → n.kids.length ≤ 1048576) (hp : path.length ≤ 1048576) : M.spec_NodeBy (encNs o l) (encI path) = some (nodeBy l path) := by
  simp only [M.spec_NodeBy, M.spec_NodeBy_C, spec_ShapeOk_ok l o hl hk, some_bind, nodeBy, encNs_length]
  cases hs : lshape l with
  | false => rfl
  | true =>
    have hlen := shape_len hs
    rw [Bool.not_true, cond_false, wrap_ok (by omega) (by omega), spec_nb_loop hl hk hp hs, some_bind, if_pos rfl]
    cases foldE (nbStep l) (nbFin path) path ((l.length : Int) - 1) <;> rfl
theorem impl_NodeBy_ok (hl : l.length ≤ 1048576) (hk : ∀ n, n ∈ l → n.kids.length ≤ 1048576) (hp : path.length ≤ 1048576) : M.impl_NodeBy (encNs o l) (encI path) = some (nodeBy l path) := by
  simp only [M.impl_NodeBy, M.impl_NodeBy_C, impl_ShapeOk_ok l o hl hk, some_bind, nodeBy, encNs_length, encI_length]
  cases hs : lshape l with
  | false => rfl
  | true =>
    have hlen := shape_len hs
    rw [Bool.not_true, cond_false, wrap_ok (by omega) (by omega), impl_nb_loop hl hk hp hs, some_bind, if_pos rfl]
    cases foldE (nbStep l) (nbFin path) path ((l.length : Int) - 1) <;> rfl
end
end Go.Proofs.Ytghbceiigeialaa
