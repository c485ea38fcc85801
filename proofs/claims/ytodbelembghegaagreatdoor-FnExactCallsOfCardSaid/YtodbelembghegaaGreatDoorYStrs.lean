/-
  The laws' own small functions on strings and edges.
-/
import Derived.Test.YtodbelembghegaaGreatDoorZMarks
import Derived.Test.YtodbelembghegaaGreatDoorVm4
namespace Go.Proofs.YtodbelembghegaaGreatDoor
set_option linter.unusedVariables false
set_option linter.unusedSimpArgs false
open Go Go.Vm

theorem eqEdgeS_same (l : List Ed) (hl : l.length ≤ 1000000000) : M.laws_eqEdgeS (encEs l) (encEs l) = some true := by
  simp only [M.laws_eqEdgeS, M.laws_eqEdgeS_C, bne_self_eq_false, cond_false]
  have hloop := loopM_run (b := M.laws_eqEdgeS_l4_b (encEs l) (encEs l)) (t := .inr ((l.length : Int))) (fun i => (i : Int)) l.length
    (by
      intro i hi
      obtain ⟨x, hx⟩ : ∃ x, l[i]? = some x := ⟨l[i], by simp [hi]⟩
      simp only [M.laws_eqEdgeS_l4_b, M.laws_eqEdgeS_l4_C, M.laws_eqEdge, M.laws_eqEdge_C, encEs_length, idx_nat, get_encEs, hx, Option.map_some, some_bind, cE0, cE1, beq_self_eq_true, Bool.not_true, cond_false]
      rw [decide_eq_true (by omega), cond_true, wrap_ok (by omega) (by omega)]
      simp)
    (by
      simp only [M.laws_eqEdgeS_l4_b, M.laws_eqEdgeS_l4_C, encEs_length]
      rw [decide_eq_false (by omega), cond_false]) 0 (Nat.zero_le _)
  rw [nat0] at hloop
  rw [M.laws_eqEdgeS_l4, hloop, some_bind]
  rfl
noncomputable def mkes (k : Int) (n : Nat) : List Ed := (List.range n).map fun (j : Nat) => (mk (k + 2 * j), mk (k + 2 * j + 1))
theorem markEdgeS_ok (k : Int) (l : List Ed) (h0 : 0 ≤ k) (h1 : k ≤ 1000000000) (hl : l.length ≤ 1000000000) : M.laws_markEdgeS k (encEs l) = some (k + 2 * l.length, encEs (mkes k l.length)) := by
  simp only [M.laws_markEdgeS, M.laws_markEdgeS_C]
  have hloop := loopM_run (b := M.laws_markEdgeS_l2_b) (t := (k + 2 * l.length, (l.length : Int), encEs (mkes k l.length))) (fun i => (k + 2 * i, (i : Int), encEs (mkd (fun j => (mk (k + 2 * j), mk (k + 2 * j + 1))) l i))) l.length
    (by
      intro i hi
      obtain ⟨x, hx⟩ : ∃ x, l[i]? = some x := ⟨l[i], by simp [hi]⟩
      have hw1 : IntKind.i64.wrap (k + 2 * (i : Int) + 1) = k + 2 * i + 1 := wrap_ok (by omega) (by omega)
      have hs1 : splice (encE x) 0 [D.str (mk (k + 2 * i))] = encE (mk (k + 2 * i), x.2) := rfl
      have hs2 : splice (encE (mk (k + 2 * i), x.2)) 1 [D.str (mk (k + 2 * i + 1))] = encE (mk (k + 2 * i), mk (k + 2 * i + 1)) := rfl
      have hg2 : (((mkd (fun j => (mk (k + 2 * j), mk (k + 2 * j + 1))) l i)).set i (mk (k + 2 * i), x.2))[i]? = some (mk (k + 2 * i), x.2) := by
        rw [List.getElem?_set_self (by rw [mkd_length _ l (Nat.le_of_lt hi)]; exact hi)]
      simp only [M.laws_markEdgeS_l2_b, M.laws_markEdgeS_l2_C, encEs_length, mkd_length _ l (Nat.le_of_lt hi), idx_nat, get_encEs, mkd_get _ hx, markText_ok (k + 2 * i) (by omega), hw1, markText_ok (k + 2 * i + 1) (by omega), Option.map_some, some_bind, Int.toNat_natCast, hs1, encEs_set, hg2, hs2, List.set_set]
      rw [decide_eq_true (by omega), cond_true, wrap_ok (by omega) (by omega), wrap_ok (by omega) (by omega), mkd_set (fun j => (mk (k + 2 * j), mk (k + 2 * j + 1))) hi]
      congr 3
      omega)
    (by
      simp only [M.laws_markEdgeS_l2_b, M.laws_markEdgeS_l2_C, encEs_length, mkd_length _ l (Nat.le_refl _)]
      rw [decide_eq_false (by omega), cond_false, mkd_all]
      rfl) 0 (Nat.zero_le _)
  simp only [nat0, Int.mul_zero, Int.add_zero, mkd_zero] at hloop
  rw [M.laws_markEdgeS_l2, hloop, some_bind]

theorem mkes_length (k : Int) (n : Nat) : (mkes k n).length = n := by simp [mkes]
theorem mkes_get (k : Int) {n i : Nat} (h : i < n) : (mkes k n)[i]? = some (mk (k + 2 * i), mk (k + 2 * i + 1)) := by simp [mkes, h]
theorem heldEdgeS_ok (k : Int) (n : Nat) (h0 : 0 ≤ k) (h1 : k ≤ 1000000000) (hl : n ≤ 1000000000) : M.laws_heldEdgeS (encEs (mkes k n)) k = some (k + 2 * n) := by
  simp only [M.laws_heldEdgeS, M.laws_heldEdgeS_C]
  have hloop := loopM_run (b := M.laws_heldEdgeS_l2_b (encEs (mkes k n))) (t := .inr (k + 2 * n, (n : Int))) (fun i => (k + 2 * i, (i : Int))) n
    (by
      intro i hi
      have w1 : IntKind.i64.wrap (k + 2 * (i : Int) + 1) = k + 2 * i + 1 := wrap_ok (by omega) (by omega)
      simp only [M.laws_heldEdgeS_l2_b, M.laws_heldEdgeS_l2_C, encEs_length, mkes_length, idx_nat, get_encEs, mkes_get k hi, w1, markText_ok (k + 2 * i) (by omega), markText_ok (k + 2 * i + 1) (by omega), Option.map_some, some_bind, cE0, cE1, beq_self_eq_true, Bool.not_true, cond_false]
      rw [decide_eq_true (by omega), cond_true, wrap_ok (by omega) (by omega), wrap_ok (by omega) (by omega)]
      congr 3
      omega)
    (by
      simp only [M.laws_heldEdgeS_l2_b, M.laws_heldEdgeS_l2_C, encEs_length, mkes_length]
      rw [decide_eq_false (by omega), cond_false]) 0 (Nat.zero_le _)
  simp only [nat0, Int.mul_zero, Int.add_zero] at hloop
  rw [M.laws_heldEdgeS_l2, hloop, some_bind]
  rfl

end Go.Proofs.YtodbelembghegaaGreatDoor
