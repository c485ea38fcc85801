import Derived.Test.YtodbelembghegaaGreatDoorYCalls
import Derived.Test.YtodbelembghegaaGreatDoorYFold
namespace Go.Proofs.YtodbelembghegaaGreatDoor
set_option linter.unusedVariables false
set_option linter.unusedSimpArgs false
open Go Go.Vm
def recs (E : List Ed) (e : Ed) : Bool := !(e.1 == []) && decide (e.1 ∈ passes E e.1 (E.length + 1))
theorem spec_rec_ok (E : List Ed) (hE : E.length ≤ 1048576) : M.spec_Recursive_l4 (encEs E) (0, []) = some ((E.length : Int), encS (((E.filter (recs E)).map (·.1)).foldl putS [])) := by
  have h := loopM_list (M.spec_Recursive_l4_b (encEs E)) E (fun i (v : List Str) => ((i : Int), encS v)) (fun v e => .inl (if recs E e = true then putS v e.1 else v)) (fun v => ((E.length : Int), encS v)) (fun i v => v.length ≤ i)
    (by
      intro i e v hx hv
      have hi := (List.getElem?_eq_some_iff.1 hx).1
      have hg : (encEs E)[(i : Int).toNat]? = some (encE e) := by rw [Int.toNat_natCast, get_encEs, hx]; rfl
      have hr := spec_Reached_ok (l := E) (s := e.1) hE
      obtain ⟨r, hf, hd⟩ := spec_l3Find_ok (passes E e.1 (E.length + 1)) e.1 (by have := passes_le E e.1 (E.length + 1); omega)
      have hp := spec_l23Put_ok v e.1 (by omega)
      simp only [M.spec_Recursive_l4_b, M.spec_Recursive_l4_C, encEs_length, idx_nat, get_encEs, hx, hg, Option.map_some, some_bind, cE0, hr, pure_oneS, cond_true, hf, hd, hp, flat_encS]
      rw [decide_eq_true (by omega), cond_true, recs, wrap_ok (by omega) (by omega)]
      by_cases h0 : e.1 = []
      · simp [h0]
      · rw [beq_eq_false_iff_ne.2 h0]
        by_cases h1 : e.1 ∈ passes E e.1 (E.length + 1)
        · rw [decide_eq_true h1]; rfl
        · rw [decide_eq_false h1]; rfl)
    (by
      intro i e v v' hx hv he
      cases he
      have := putS_length v e.1
      split <;> omega)
    (by
      intro v hv
      simp only [M.spec_Recursive_l4_b, M.spec_Recursive_l4_C, encEs_length]
      rw [decide_eq_false (by omega), cond_false])
    [] (by simp)
  have e0 : encS [] = [] := rfl
  rw [nat0, e0] at h
  rw [M.spec_Recursive_l4, h, foldE_inl (fun (v : List Str) (e : Ed) => (.inl (if recs E e = true then putS v e.1 else v) : List Str ⊕ (Int × List Row))) (fun v e => if recs E e = true then putS v e.1 else v) _ (fun _ _ => rfl), fold_pick]
theorem impl_rec_ok (E : List Ed) (hE : E.length ≤ 1048576) : M.impl_Recursive_l3 (E.length : Int) (encEs E) (0, []) = some ((E.length : Int), encS ((E.filter (recs E)).map (·.1))) := by
  have h := loopM_list (M.impl_Recursive_l3_b (E.length : Int) (encEs E)) E (fun i (v : List Str) => ((i : Int), encS v)) (fun v e => .inl (if recs E e = true then v ++ [e.1] else v)) (fun v => ((E.length : Int), encS v)) (fun i v => v.length ≤ i)
    (by
      intro i e v hx hv
      have hi := (List.getElem?_eq_some_iff.1 hx).1
      have hg : (encEs E)[(i : Int).toNat]? = some (encE e) := by rw [Int.toNat_natCast, get_encEs, hx]; rfl
      have hr := impl_Reached_ok (l := E) (s := e.1) hE
      have hf := slices_Contains_ok (passes E e.1 (E.length + 1)) e.1 (by have := passes_le E e.1 (E.length + 1); omega)
      simp only [M.impl_Recursive_l3_b, M.impl_Recursive_l3_C, idx_nat, get_encEs, hx, hg, Option.map_some, some_bind, cE0, cE1, hr, pure_oneS, cond_true, hf, encS_length, List.length_singleton]
      rw [decide_eq_true (by omega), cond_true, recs, wrap_ok (by omega) (by omega), ble_ok (by omega), ble_ok (by omega)]
      by_cases h0 : e.1 = []
      · simp [h0]
      · rw [beq_eq_false_iff_ne.2 h0]
        by_cases h1 : e.1 ∈ passes E e.1 (E.length + 1)
        · rw [decide_eq_true h1, encS_one, ← encS_append]; rfl
        · rw [decide_eq_false h1]; rfl)
    (by
      intro i e v v' hx hv he
      cases he
      split
      · rw [List.length_append, List.length_singleton]; omega
      · omega)
    (by
      intro v hv
      simp only [M.impl_Recursive_l3_b, M.impl_Recursive_l3_C]
      rw [decide_eq_false (by omega), cond_false])
    [] (by simp)
  have e0 : encS [] = [] := rfl
  rw [nat0, e0] at h
  rw [M.impl_Recursive_l3, h, foldE_inl (fun (v : List Str) (e : Ed) => (.inl (if recs E e = true then v ++ [e.1] else v) : List Str ⊕ (Int × List Row))) (fun v e => if recs E e = true then v ++ [e.1] else v) _ (fun _ _ => rfl), fold_app, List.nil_append]
theorem Recursive_ok {l : List Nd} (h : Ok l) : ∃ R : List Str, R.length ≤ 400 ∧ M.spec_Recursive (encNs false l) = some (encS R) ∧ M.impl_Recursive (encNs false l) = some (encS R) := by
  obtain ⟨E, hE, _, h1, h2⟩ := CallsOf_ok h
  have a1 := spec_rec_ok E (by omega)
  have a2 := impl_rec_ok E (by omega)
  have hL : ((E.filter (recs E)).map (·.1)).length ≤ 400 := by
    rw [List.length_map]
    exact Nat.le_trans (List.length_filter_le _ _) hE
  have a3 := impl_once_ok ((E.filter (recs E)).map (·.1)) (by omega)
  refine ⟨onceS ((E.filter (recs E)).map (·.1)), Nat.le_trans (onceS_le _) hL, ?_, ?_⟩
  · simp only [M.spec_Recursive, M.spec_Recursive_C, h1, some_bind, a1, flat_encS, cond_true, putsS_once]
  · simp only [M.impl_Recursive, M.impl_Recursive_C, h2, some_bind, encEs_length, a2, flat_encS, cond_true, a3]
theorem law_Recursive (l : List Nd) (hl : l.length ≤ maxLen) (hf : ∀ n, n ∈ l → Fit n) : M.laws_FnExactRecursive (encNs false l) = some true := by
  simp only [M.laws_FnExactRecursive, M.laws_FnExactRecursive_C]
  rw [szNodeS_ok l false 1048576 (by omega) (by omega) hl hf, some_bind]
  by_cases hs : (l.length + wNs l : Int) ≤ 1048576
  · rw [if_pos hs, decide_eq_false (by omega), cond_false]
    have ol : Ok l := ok_of hs hf (by omega) (by
      intro n hn
      have h1 := wNs_mem hn
      have h2 : wN n = n.text.length + n.other.length + n.kids.length := rfl
      omega)
    obtain ⟨R, hR, h1, h2⟩ := Recursive_ok ol
    have a1 := toNodeS_ok l false ol.len ol.k
    have a3 := eqStringS_same R (by omega)
    have a4 := eqNodeS_same l false false hl (fun n hn => (hf n hn).kids)
    have a6 := markNodeS_ok 1 l (by omega) (by have := ol.w; omega)
    have a7 := markStringS_ok 1 R (by omega) (by omega) (by omega)
    have a8 := heldStringS_ok 1 R.length (by omega) (by omega) (by omega)
    have d1 : decide ((1 : Int) + (wK l : Int) < 0) = false := decide_eq_false (by omega)
    have d2 : decide ((1 : Int) + (R.length : Int) < 0) = false := decide_eq_false (by omega)
    simp only [a1, fz_encNs, h1, h2, a3, a4, a6, a7, a8, d1, d2, some_bind, pure_oneS, cond_true, cond_false, Bool.not_true, bne_self_eq_false]
  · rw [if_neg hs]; rfl
end Go.Proofs.YtodbelembghegaaGreatDoor
