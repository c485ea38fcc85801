/-
  The laws' own small functions on strings and edges.
-/
import Derived.Test.YtodbelembghegaaRForms
import Derived.Test.YtodbelembghegaaVm4
namespace Go.Proofs.Ytodbelembghegaa
set_option linter.unusedVariables false
set_option linter.unusedSimpArgs false
open Go Go.Vm

theorem nat0 : ((0 : Nat) : Int) = 0 := rfl
theorem eqStringS_same (l : List Str) (hl : l.length ≤ 1000000000) : M.laws_eqStringS (encS l) (encS l) = some true := by
  simp only [M.laws_eqStringS, M.laws_eqStringS_C, bne_self_eq_false, cond_false]
  have hloop := loopM_run (b := M.laws_eqStringS_l4_b (encS l) (encS l)) (t := .inr ((l.length : Int))) (fun i => (i : Int)) l.length
    (by
      intro i hi
      obtain ⟨x, hx⟩ : ∃ x, l[i]? = some x := ⟨l[i], by simp [hi]⟩
      simp only [M.laws_eqStringS_l4_b, M.laws_eqStringS_l4_C, encS_length, idx_nat, get_encS, hx, Option.map_some, some_bind, cS0, beq_self_eq_true, Bool.not_true, cond_false]
      rw [decide_eq_true (by omega), cond_true, wrap_ok (by omega) (by omega)]
      simp)
    (by
      simp only [M.laws_eqStringS_l4_b, M.laws_eqStringS_l4_C, encS_length]
      rw [decide_eq_false (by omega), cond_false]) 0 (Nat.zero_le _)
  rw [nat0] at hloop
  rw [M.laws_eqStringS_l4, hloop, some_bind]
  rfl
/-! ### marks -/
theorem markText_loop : ∀ (m : Nat) (k : Int) (s : List UInt8), 0 ≤ k → k.toNat ≤ m → s.length + k.toNat ≤ 4000000000000000000 → ∃ k' s', M.laws_markText_l4 (k, s) = some (k', s') ∧ s'.length ≤ 4000000000000000000
  | m, k, s, h0, h1, hs => by
    by_cases hk : 0 < k
    · cases m with
      | zero => omega
      | succ m =>
        have hd : k.tdiv 10 = k / 10 := Int.tdiv_eq_ediv_of_nonneg h0
        obtain ⟨y, hy⟩ : ∃ y, y = UInt8.ofNat (IntKind.u8.wrap (IntKind.i64.wrap (48 + k.tmod 10))).toNat := ⟨_, rfl⟩
        have hstep : M.laws_markText_l4_b (k, s) = some (.inl (k / 10, [y] ++ s)) := by
          simp only [M.laws_markText_l4_b, M.laws_markText_l4_C]
          rw [← hy, decide_eq_true (show k > 0 from hk), cond_true]
          have : ([y].length + s.length).ble 9223372036854775807 = true := by
            apply Nat.ble_eq_true_of_le
            simp
            omega
          rw [this, cond_true, hd, wrap_ok (by omega) (by omega)]
        obtain ⟨k', s', h2, h3⟩ := markText_loop m (k / 10) ([y] ++ s) (by omega) (by omega) (by simp; omega)
        refine ⟨k', s', ?_, h3⟩
        rw [M.laws_markText_l4, loopM_next hstep]
        exact h2
    · refine ⟨k, s, ?_, by omega⟩
      rw [M.laws_markText_l4]
      apply loopM_end
      simp only [M.laws_markText_l4_b, M.laws_markText_l4_C]
      rw [decide_eq_false (show ¬ k > 0 from hk), cond_false]
noncomputable def mk (k : Int) : Str := (M.laws_markText k).getD []
theorem markText_ok (k : Int) (h : k ≤ 4000000000000000000) : M.laws_markText k = some (mk k) := by
  have : ∃ s, M.laws_markText k = some s := by
    simp only [M.laws_markText, M.laws_markText_C]
    by_cases hk : k ≤ 0
    · rw [decide_eq_true hk]; exact ⟨_, rfl⟩
    · rw [decide_eq_false hk, cond_false]
      obtain ⟨k', s', h2, h3⟩ := markText_loop k.toNat k [] (by omega) (Nat.le_refl _) (by simp; omega)
      rw [h2, some_bind]
      have : (1 + s'.length).ble 9223372036854775807 = true := by
        apply Nat.ble_eq_true_of_le
        omega
      rw [this]
      exact ⟨_, rfl⟩
  obtain ⟨s, hs⟩ := this
  rw [mk, hs]
  rfl
noncomputable def mks (k : Int) (n : Nat) : List Str := (List.range n).map fun (j : Nat) => mk (k + j)
theorem mks_length (k : Int) (n : Nat) : (mks k n).length = n := by simp [mks]
theorem mks_get (k : Int) {n i : Nat} (h : i < n) : (mks k n)[i]? = some (mk (k + i)) := by simp [mks, h]
theorem markStringS_ok (k : Int) (l : List Str) (h0 : 0 ≤ k) (h1 : k ≤ 1000000000) (hl : l.length ≤ 1000000000) : M.laws_markStringS k (encS l) = some (k + l.length, encS (mks k l.length)) := by
  simp only [M.laws_markStringS, M.laws_markStringS_C]
  have hloop := loopM_run (b := M.laws_markStringS_l2_b) (t := (k + l.length, (l.length : Int), encS (mks k l.length))) (fun i => (k + i, (i : Int), encS (mkd (fun j => mk (k + j)) l i))) l.length
    (by
      intro i hi
      obtain ⟨x, hx⟩ : ∃ x, l[i]? = some x := ⟨l[i], by simp [hi]⟩
      simp only [M.laws_markStringS_l2_b, M.laws_markStringS_l2_C, encS_length, mkd_length _ l (Nat.le_of_lt hi), idx_nat, get_encS, mkd_get _ hx, markText_ok (k + i) (by omega), Option.map_some, some_bind, Int.toNat_natCast]
      rw [decide_eq_true (by omega), cond_true, wrap_ok (by omega) (by omega), wrap_ok (by omega) (by omega)]
      have hs : splice [D.str x] 0 [D.str (mk (k + i))] = [D.str (mk (k + i))] := rfl
      rw [hs, encS_set, mkd_set (fun j => mk (k + j)) hi]
      congr 3
      omega)
    (by
      simp only [M.laws_markStringS_l2_b, M.laws_markStringS_l2_C, encS_length, mkd_length _ l (Nat.le_refl _)]
      rw [decide_eq_false (by omega), cond_false, mkd_all]
      rfl) 0 (Nat.zero_le _)
  simp only [nat0, Int.add_zero, mkd_zero] at hloop
  rw [M.laws_markStringS_l2, hloop, some_bind]
theorem heldStringS_ok (k : Int) (n : Nat) (h0 : 0 ≤ k) (h1 : k ≤ 1000000000) (hl : n ≤ 1000000000) : M.laws_heldStringS (encS (mks k n)) k = some (k + n) := by
  simp only [M.laws_heldStringS, M.laws_heldStringS_C]
  have hloop := loopM_run (b := M.laws_heldStringS_l2_b (encS (mks k n))) (t := .inr (k + n, (n : Int))) (fun i => (k + i, (i : Int))) n
    (by
      intro i hi
      simp only [M.laws_heldStringS_l2_b, M.laws_heldStringS_l2_C, encS_length, mks_length, idx_nat, get_encS, mks_get k hi, markText_ok (k + i) (by omega), Option.map_some, some_bind, cS0, beq_self_eq_true, Bool.not_true, cond_false]
      rw [decide_eq_true (by omega), cond_true, wrap_ok (by omega) (by omega), wrap_ok (by omega) (by omega)]
      congr 3
      omega)
    (by
      simp only [M.laws_heldStringS_l2_b, M.laws_heldStringS_l2_C, encS_length, mks_length]
      rw [decide_eq_false (by omega), cond_false]) 0 (Nat.zero_le _)
  simp only [nat0, Int.add_zero] at hloop
  rw [M.laws_heldStringS_l2, hloop, some_bind]
  rfl

/-! ### edges -/
def wE (e : Ed) : Nat := e.1.length + e.2.length
def wEs : List Ed → Nat
  | [] => 0
  | e :: l => wE e + wEs l
theorem szEdge_ok (e : Ed) (L : Int) (h0 : 0 ≤ L) (h1 : L ≤ 1048576) (ha : e.1.length ≤ maxLen) (hb : e.2.length ≤ maxLen) : M.laws_szEdge e.1 e.2 L = some (if (wE e : Int) ≤ L then L - wE e else -1) := by
  unfold maxLen at ha hb
  have hw : (wE e : Int) = e.1.length + e.2.length := by simp [wE]
  simp only [M.laws_szEdge, M.laws_szEdge_C]
  rw [wrap_ok (by omega) (by omega)]
  by_cases h : (e.1.length : Int) ≤ L
  · rw [decide_eq_false (by omega), cond_false, wrap_ok (by omega) (by omega)]
    by_cases h2 : (e.1.length : Int) + e.2.length ≤ L
    · rw [decide_eq_false (by omega), cond_false, if_pos (by omega)]
      congr 1
      omega
    · rw [decide_eq_true (by omega), cond_true, if_neg (by omega)]
  · rw [decide_eq_true (by omega), cond_true, if_neg (by omega)]
theorem foldE_szE (l : List Ed) (len : Nat) : ∀ w : Int, 0 ≤ w → foldE (fun (w : Int) (n : Ed) => (if (wE n : Int) ≤ w then .inl (w - wE n) else .inr (.inl ()) : Int ⊕ (Unit ⊕ (Int × Int)))) (fun w => .inr (w, (len : Int))) l w =
    if (wEs l : Int) ≤ w then .inr (w - wEs l, (len : Int)) else .inl () := by
  induction l with
  | nil => intro w h; simp [foldE, wEs, h]
  | cons n l ih =>
    intro w h
    have hw : (wEs (n :: l) : Int) = wE n + wEs l := by simp [wEs]
    simp only [foldE]
    by_cases hn : (wE n : Int) ≤ w
    · rw [if_pos hn]
      simp only
      rw [ih (w - wE n) (by omega)]
      by_cases h2 : (wEs l : Int) ≤ w - wE n
      · rw [if_pos h2, if_pos (by omega)]
        congr 2
        omega
      · rw [if_neg h2, if_neg (by omega)]
    · rw [if_neg hn, if_neg (by omega)]
theorem szEdgeS_ok (l : List Ed) (L : Int) (h0 : 0 ≤ L) (h1 : L ≤ 1048576) (hl : l.length ≤ maxLen) (hf : ∀ e, e ∈ l → e.1.length ≤ maxLen ∧ e.2.length ≤ maxLen) :
    M.laws_szEdgeS (encEs l) L = some (if (l.length : Int) + wEs l ≤ L then L - l.length - wEs l else -1) := by
  have hl' := hl
  unfold maxLen at hl'
  simp only [M.laws_szEdgeS, M.laws_szEdgeS_C, encEs_length]
  rw [wrap_ok (by omega) (by omega)]
  by_cases h : (l.length : Int) ≤ L
  · rw [decide_eq_false (by omega), cond_false]
    have hloop := loopM_list (M.laws_szEdgeS_l5_b (encEs l)) l (fun i (w : Int) => (w, (i : Int))) (fun (w : Int) (n : Ed) => (if (wE n : Int) ≤ w then .inl (w - wE n) else .inr (.inl ()) : Int ⊕ (Unit ⊕ (Int × Int)))) (fun w => .inr (w, (l.length : Int))) (fun _ w => 0 ≤ w ∧ w ≤ 1048576)
      (by
        intro i x w hx hw
        have hi := (List.getElem?_eq_some_iff.1 hx).1
        have hxf := hf x (List.mem_of_getElem? hx)
        simp only [M.laws_szEdgeS_l5_b, M.laws_szEdgeS_l5_C, encEs_length, idx_nat, get_encEs, hx, Option.map_some, some_bind, cE0, cE1, szEdge_ok x w hw.1 hw.2 hxf.1 hxf.2]
        rw [decide_eq_true (by omega), cond_true]
        by_cases hc : (wE x : Int) ≤ w
        · rw [if_pos hc, if_pos hc, decide_eq_false (by omega), cond_false, wrap_ok (by omega) (by omega)]
          rfl
        · rw [if_neg hc, if_neg hc]
          rfl)
      (by
        intro i x w w' hx hw he
        split at he
        · cases he
          omega
        · cases he)
      (by
        intro w hw
        simp only [M.laws_szEdgeS_l5_b, M.laws_szEdgeS_l5_C, encEs_length]
        rw [decide_eq_false (by omega), cond_false])
      (L - l.length) (by omega)
    have h00 : ((0 : Nat) : Int) = 0 := rfl
    simp only [h00] at hloop
    rw [M.laws_szEdgeS_l5, hloop, foldE_szE l l.length _ (by omega)]
    by_cases h2 : (l.length : Int) + wEs l ≤ L
    · rw [if_pos (by omega), if_pos h2]
      rfl
    · rw [if_neg (by omega), if_neg h2]
      rfl
  · rw [decide_eq_true (by omega), cond_true, if_neg (by omega)]
theorem wEs_mem {l : List Ed} {e : Ed} (h : e ∈ l) : wE e ≤ wEs l := by
  induction l with
  | nil => cases h
  | cons x l ih =>
    rw [wEs]
    rcases List.mem_cons.1 h with rfl | h
    · omega
    · have := ih h
      omega
theorem toEdgeS_ok (l : List Ed) (hl : l.length ≤ 1048576) : M.laws_toEdgeS (encEs l) = some (encEs l) := by
  simp only [M.laws_toEdgeS, M.laws_toEdgeS_C, encEs_length]
  have hb : (decide (0 ≤ (l.length : Int)) && decide ((l.length : Int) ≤ (l.length : Int)) && decide ((l.length : Int) * 32 ≤ 140737488355328) && decide ((l.length : Int) ≤ 140737488355328)) = true := by
    simp only [Bool.and_eq_true, decide_eq_true_eq]
    omega
  rw [hb, cond_true]
  have hz : List.replicate (l.length : Int).toNat [D.str [], D.str []] = encEs (List.replicate l.length ([], [])) := by simp [encEs, encE]
  rw [hz]
  have hloop := loopM_run (b := M.laws_toEdgeS_l3_b (encEs l)) (t := ((l.length : Int), encEs l)) (fun i => ((i : Int), encEs (l.take i ++ List.replicate (l.length - i) ([], [])))) l.length
    (by
      intro i hi
      obtain ⟨x, hx⟩ : ∃ x, l[i]? = some x := ⟨l[i], by simp [hi]⟩
      have hlen : (l.take i).length = i := by rw [List.length_take]; omega
      have hg : (l.take i ++ List.replicate (l.length - i) (([], []) : Ed))[i]? = some ([], []) := by
        rw [List.getElem?_append_right (Nat.le_of_eq hlen), hlen, Nat.sub_self, List.getElem?_replicate, if_pos (by omega)]
      simp only [M.laws_toEdgeS_l3_b, M.laws_toEdgeS_l3_C, encEs_length, idx_nat, get_encEs, hx, hg, Option.map_some, some_bind, cE0, cE1, M.laws_toEdge, M.laws_toEdge_C, Int.toNat_natCast]
      rw [decide_eq_true (by omega), cond_true, wrap_ok (by omega) (by omega)]
      have hs : splice (encE ([], [])) 0 [D.str x.1, D.str x.2] = encE x := rfl
      rw [hs, encEs_set]
      have e : (l.take i ++ List.replicate (l.length - i) (([], []) : Ed)).set i x = l.take (i + 1) ++ List.replicate (l.length - (i + 1)) ([], []) := by
        rw [List.set_append_right _ _ (by omega), hlen, Nat.sub_self, List.take_add_one, hx, show l.length - i = (l.length - (i + 1)) + 1 by omega, List.replicate_succ]
        simp
      rw [e]
      rfl)
    (by
      simp only [M.laws_toEdgeS_l3_b, M.laws_toEdgeS_l3_C, encEs_length]
      rw [decide_eq_false (by omega), cond_false]
      simp) 0 (Nat.zero_le _)
  simp only [nat0, List.take_zero, List.nil_append, Nat.sub_zero] at hloop
  rw [M.laws_toEdgeS_l3, hloop, some_bind, flat_encEs, cond_true]
theorem eqEdgeS_same (l : List Ed) (hl : l.length ≤ 1000000000) : M.laws_eqEdgeS (encEs l) (encEs l) = some true := by
  simp only [M.laws_eqEdgeS, M.laws_eqEdgeS_C, bne_self_eq_false, cond_false]
  have hloop := loopM_run (b := M.laws_eqEdgeS_l4_b (encEs l) (encEs l)) (t := .inr ((l.length : Int))) (fun i => (i : Int)) l.length
    (by
      intro i hi
      obtain ⟨x, hx⟩ : ∃ x, l[i]? = some x := ⟨l[i], by simp [hi]⟩
      simp only [M.laws_eqEdgeS_l4_b, M.laws_eqEdgeS_l4_C, M.laws_eqEdge, M.laws_eqEdge_C, encEs_length, idx_nat, get_encEs, hx, Option.map_some, some_bind, cE0, cE1, beq_self_eq_true, Bool.not_true, cond_false]
      rw [decide_eq_true (by omega), cond_true, wrap_ok (by omega) (by omega)]
      simp)
    (by
      simp only [M.laws_eqEdgeS_l4_b, M.laws_eqEdgeS_l4_C, encEs_length]
      rw [decide_eq_false (by omega), cond_false]) 0 (Nat.zero_le _)
  rw [nat0] at hloop
  rw [M.laws_eqEdgeS_l4, hloop, some_bind]
  rfl
noncomputable def mkes (k : Int) (n : Nat) : List Ed := (List.range n).map fun (j : Nat) => (mk (k + 2 * j), mk (k + 2 * j + 1))
theorem markEdgeS_ok (k : Int) (l : List Ed) (h0 : 0 ≤ k) (h1 : k ≤ 1000000000) (hl : l.length ≤ 1000000000) : M.laws_markEdgeS k (encEs l) = some (k + 2 * l.length, encEs (mkes k l.length)) := by
  simp only [M.laws_markEdgeS, M.laws_markEdgeS_C]
  have hloop := loopM_run (b := M.laws_markEdgeS_l2_b) (t := (k + 2 * l.length, (l.length : Int), encEs (mkes k l.length))) (fun i => (k + 2 * i, (i : Int), encEs (mkd (fun j => (mk (k + 2 * j), mk (k + 2 * j + 1))) l i))) l.length
    (by
      intro i hi
      obtain ⟨x, hx⟩ : ∃ x, l[i]? = some x := ⟨l[i], by simp [hi]⟩
      have hw1 : IntKind.i64.wrap (k + 2 * (i : Int) + 1) = k + 2 * i + 1 := wrap_ok (by omega) (by omega)
      have hs1 : splice (encE x) 0 [D.str (mk (k + 2 * i))] = encE (mk (k + 2 * i), x.2) := rfl
      have hs2 : splice (encE (mk (k + 2 * i), x.2)) 1 [D.str (mk (k + 2 * i + 1))] = encE (mk (k + 2 * i), mk (k + 2 * i + 1)) := rfl
      have hg2 : (((mkd (fun j => (mk (k + 2 * j), mk (k + 2 * j + 1))) l i)).set i (mk (k + 2 * i), x.2))[i]? = some (mk (k + 2 * i), x.2) := by
        rw [List.getElem?_set_self (by rw [mkd_length _ l (Nat.le_of_lt hi)]; exact hi)]
      simp only [M.laws_markEdgeS_l2_b, M.laws_markEdgeS_l2_C, encEs_length, mkd_length _ l (Nat.le_of_lt hi), idx_nat, get_encEs, mkd_get _ hx, markText_ok (k + 2 * i) (by omega), hw1, markText_ok (k + 2 * i + 1) (by omega), Option.map_some, some_bind, Int.toNat_natCast, hs1, encEs_set, hg2, hs2, List.set_set]
      rw [decide_eq_true (by omega), cond_true, wrap_ok (by omega) (by omega), wrap_ok (by omega) (by omega), mkd_set (fun j => (mk (k + 2 * j), mk (k + 2 * j + 1))) hi]
      congr 3
      omega)
    (by
      simp only [M.laws_markEdgeS_l2_b, M.laws_markEdgeS_l2_C, encEs_length, mkd_length _ l (Nat.le_refl _)]
      rw [decide_eq_false (by omega), cond_false, mkd_all]
      rfl) 0 (Nat.zero_le _)
  simp only [nat0, Int.mul_zero, Int.add_zero, mkd_zero] at hloop
  rw [M.laws_markEdgeS_l2, hloop, some_bind]
end Go.Proofs.Ytodbelembghegaa
