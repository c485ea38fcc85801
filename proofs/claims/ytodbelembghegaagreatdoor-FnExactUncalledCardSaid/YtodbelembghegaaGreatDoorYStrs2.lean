import Derived.Test.YtodbelembghegaaGreatDoorZMarks
import Derived.Test.YtodbelembghegaaGreatDoorVm4
namespace Go.Proofs.YtodbelembghegaaGreatDoor
set_option linter.unusedVariables false
set_option linter.unusedSimpArgs false
open Go Go.Vm
theorem eqStringS_same (l : List Str) (hl : l.length ≤ 1000000000) : M.laws_eqStringS (encS l) (encS l) = some true := by
  simp only [M.laws_eqStringS, M.laws_eqStringS_C, bne_self_eq_false, cond_false]
  have hloop := loopM_run (b := M.laws_eqStringS_l4_b (encS l) (encS l)) (t := .inr ((l.length : Int))) (fun i => (i : Int)) l.length
    (by
      intro i hi
      obtain ⟨x, hx⟩ : ∃ x, l[i]? = some x := ⟨l[i], by simp [hi]⟩
      simp only [M.laws_eqStringS_l4_b, M.laws_eqStringS_l4_C, encS_length, idx_nat, get_encS, hx, Option.map_some, some_bind, cS0, beq_self_eq_true, Bool.not_true, cond_false]
      rw [decide_eq_true (by omega), cond_true, wrap_ok (by omega) (by omega)]
      simp)
    (by
      simp only [M.laws_eqStringS_l4_b, M.laws_eqStringS_l4_C, encS_length]
      rw [decide_eq_false (by omega), cond_false]) 0 (Nat.zero_le _)
  rw [nat0] at hloop
  rw [M.laws_eqStringS_l4, hloop, some_bind]
  rfl
noncomputable def mks (k : Int) (n : Nat) : List Str := (List.range n).map fun (j : Nat) => mk (k + j)
theorem mks_length (k : Int) (n : Nat) : (mks k n).length = n := by simp [mks]
theorem mks_get (k : Int) {n i : Nat} (h : i < n) : (mks k n)[i]? = some (mk (k + i)) := by simp [mks, h]
theorem markStringS_ok (k : Int) (l : List Str) (h0 : 0 ≤ k) (h1 : k ≤ 1000000000) (hl : l.length ≤ 1000000000) : M.laws_markStringS k (encS l) = some (k + l.length, encS (mks k l.length)) := by
  simp only [M.laws_markStringS, M.laws_markStringS_C]
  have hloop := loopM_run (b := M.laws_markStringS_l2_b) (t := (k + l.length, (l.length : Int), encS (mks k l.length))) (fun i => (k + i, (i : Int), encS (mkd (fun j => mk (k + j)) l i))) l.length
    (by
      intro i hi
      obtain ⟨x, hx⟩ : ∃ x, l[i]? = some x := ⟨l[i], by simp [hi]⟩
      simp only [M.laws_markStringS_l2_b, M.laws_markStringS_l2_C, encS_length, mkd_length _ l (Nat.le_of_lt hi), idx_nat, get_encS, mkd_get _ hx, markText_ok (k + i) (by omega), Option.map_some, some_bind, Int.toNat_natCast]
      rw [decide_eq_true (by omega), cond_true, wrap_ok (by omega) (by omega), wrap_ok (by omega) (by omega)]
      have hs : splice [D.str x] 0 [D.str (mk (k + i))] = [D.str (mk (k + i))] := rfl
      rw [hs, encS_set, mkd_set (fun j => mk (k + j)) hi]
      congr 3
      omega)
    (by
      simp only [M.laws_markStringS_l2_b, M.laws_markStringS_l2_C, encS_length, mkd_length _ l (Nat.le_refl _)]
      rw [decide_eq_false (by omega), cond_false, mkd_all]
      rfl) 0 (Nat.zero_le _)
  simp only [nat0, Int.add_zero, mkd_zero] at hloop
  rw [M.laws_markStringS_l2, hloop, some_bind]
theorem heldStringS_ok (k : Int) (n : Nat) (h0 : 0 ≤ k) (h1 : k ≤ 1000000000) (hl : n ≤ 1000000000) : M.laws_heldStringS (encS (mks k n)) k = some (k + n) := by
  simp only [M.laws_heldStringS, M.laws_heldStringS_C]
  have hloop := loopM_run (b := M.laws_heldStringS_l2_b (encS (mks k n))) (t := .inr (k + n, (n : Int))) (fun i => (k + i, (i : Int))) n
    (by
      intro i hi
      simp only [M.laws_heldStringS_l2_b, M.laws_heldStringS_l2_C, encS_length, mks_length, idx_nat, get_encS, mks_get k hi, markText_ok (k + i) (by omega), Option.map_some, some_bind, cS0, beq_self_eq_true, Bool.not_true, cond_false]
      rw [decide_eq_true (by omega), cond_true, wrap_ok (by omega) (by omega), wrap_ok (by omega) (by omega)]
      congr 3
      omega)
    (by
      simp only [M.laws_heldStringS_l2_b, M.laws_heldStringS_l2_C, encS_length, mks_length]
      rw [decide_eq_false (by omega), cond_false]) 0 (Nat.zero_le _)
  simp only [nat0, Int.add_zero] at hloop
  rw [M.laws_heldStringS_l2, hloop, some_bind]
  rfl
end Go.Proofs.YtodbelembghegaaGreatDoor
