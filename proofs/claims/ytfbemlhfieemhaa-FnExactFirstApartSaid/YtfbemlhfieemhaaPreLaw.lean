/-
  The law on Preorder, in plain Lean.
-/
import Derived.Test.YtfbemlhfieemhaaPre
import Derived.Test.YtfbemlhfieemhaaMarks
namespace Go.Proofs.Ytfbemlhfieemhaa
set_option linter.unusedVariables false
set_option linter.unusedSimpArgs false
open Go Go.Vm

def wK : List Nd → Nat
  | [] => 0
  | n :: l => 4 + n.kids.length + wK l
theorem markNodeS_loop : ∀ (rest done : List Nd) (k : Int), 0 ≤ k → k + (wK rest : Int) ≤ 1000000000 → done.length + rest.length ≤ 1000000000 →
    ∃ k' m', M.laws_markNodeS_l2 (k, (done.length : Int), encNs true (done ++ rest)) = some (k', ((done.length + rest.length : Nat) : Int), false, encNs true m') ∧ 0 ≤ k' ∧ k' ≤ k + (wK rest : Int)
  | [], done, k, h0, h1, h2 => by
    refine ⟨k, done, ?_, h0, by simp [wK]⟩
    rw [M.laws_markNodeS_l2]
    apply loopM_end
    simp only [M.laws_markNodeS_l2_b, M.laws_markNodeS_l2_C, encNs_length, List.append_nil]
    rw [decide_eq_false (by omega), cond_false]
    rfl
  | n :: rest, done, k, h0, h1, h2 => by
    have hw : wK (n :: rest) = 4 + n.kids.length + wK rest := rfl
    rw [hw] at h1
    simp only [List.length_cons] at h2
    obtain ⟨s, hs⟩ := markText_ok (k + 1 + 1) (by omega)
    obtain ⟨u, hu⟩ := markText_ok (k + 1 + 1 + 1) (by omega)
    have hmk := markIntS_ok (k + 1 + 1 + 1 + 1) n.kids (by omega) (by omega) (by omega)
    obtain ⟨k', m', hm', hk', hk2⟩ := markNodeS_loop rest (done ++ [⟨k, k + 1, s, u, markI (k + 1 + 1 + 1 + 1) n.kids.length⟩]) (k + 1 + 1 + 1 + 1 + n.kids.length) (by omega) (by omega) (by simp; omega)
    refine ⟨k', m', ?_, hk', by rw [hw]; omega⟩
    rw [M.laws_markNodeS_l2] at hm' ⊢
    have hlen : (done ++ n :: rest).length = done.length + (rest.length + 1) := by simp
    have hget : (encNs true (done ++ n :: rest))[done.length]? = some (encN true n) := by
      rw [get_encNs, List.getElem?_append_right (Nat.le_refl _), Nat.sub_self]
      rfl
    have hil : done.length < (encNs true (done ++ n :: rest)).length := by simp
    have g1 : ∀ (r : Row), ((encNs true (done ++ n :: rest)).set done.length r)[done.length]? = some r := fun r => by simp
    have b1 : Nat.beq 1 1 = true := rfl
    rw [loopM_next (s' := (k + 1 + 1 + 1 + 1 + (n.kids.length : Int), (((done ++ [(⟨k, k + 1, s, u, markI (k + 1 + 1 + 1 + 1) n.kids.length⟩ : Nd)]).length : Nat) : Int), encNs true ((done ++ [⟨k, k + 1, s, u, markI (k + 1 + 1 + 1 + 1) n.kids.length⟩]) ++ rest))) ?_]
    · rw [hm']
      simp
      omega
    · generalize hE : encNs true (done ++ n :: rest) = E at hget hil g1
      have hEl : (E.length : Int) = done.length + (rest.length + 1) := by rw [← hE, encNs_length, hlen]; omega
      simp only [M.laws_markNodeS_l2_b, M.laws_markNodeS_l2_C, hEl, idx_nat, Int.toNat_natCast, hget, some_bind, g1, List.set_set]
      rw [decide_eq_true (by omega), cond_true, wrap_ok (n := k + 1) (by omega) (by omega), wrap_ok (n := k + 1 + 1) (by omega) (by omega), hs, some_bind, wrap_ok (n := k + 1 + 1 + 1) (by omega) (by omega), hu, some_bind, wrap_ok (n := k + 1 + 1 + 1 + 1) (by omega) (by omega), wrap_ok (n := (done.length : Int) + 1) (by omega) (by omega)]
      have hc : cOwn 1 (splice (splice (splice (splice (encN true n) 0 [D.int IntKind.i64 k]) 1 [D.int IntKind.i64 (k + 1)]) 2 [D.str s]) 3 [D.str u]) 4 = some (encI n.kids) := rfl
      rw [hc, some_bind, flat_encI, cond_true, hmk, some_bind]
      simp only [flat_encI, pure_encI, b1, beq_self_eq_true, Bool.and_self, cond_true]
      have hf : splice (splice (splice (splice (splice (encN true n) 0 [D.int IntKind.i64 k]) 1 [D.int IntKind.i64 (k + 1)]) 2 [D.str s]) 3 [D.str u]) 4 [D.sl true 1 (encI (markI (k + 1 + 1 + 1 + 1) n.kids.length))] = encN true ⟨k, k + 1, s, u, markI (k + 1 + 1 + 1 + 1) n.kids.length⟩ := rfl
      rw [hf, ← hE]
      have he : (encNs true (done ++ n :: rest)).set done.length (encN true ⟨k, k + 1, s, u, markI (k + 1 + 1 + 1 + 1) n.kids.length⟩) = encNs true ((done ++ [⟨k, k + 1, s, u, markI (k + 1 + 1 + 1 + 1) n.kids.length⟩]) ++ rest) := by
        have := set_append_at (done.map (encN true)) (rest.map (encN true)) (encN true n) (encN true ⟨k, k + 1, s, u, markI (k + 1 + 1 + 1 + 1) n.kids.length⟩)
        rw [List.length_map] at this
        simp only [encNs, List.map_append, List.map_cons, List.map_nil, List.append_assoc, List.cons_append, List.nil_append]
        exact this
      rw [he]
      simp
theorem wK_le : ∀ (l : List Nd), wK l ≤ 4 * l.length + wNs l
  | [] => by simp [wK]
  | n :: l => by
    have := wK_le l
    have h1 : wNs (n :: l) = wN n + wNs l := rfl
    have h2 : wN n = n.text.length + n.other.length + n.kids.length := rfl
    rw [wK, h1, h2, List.length_cons]
    omega
theorem markNodeS_at (k : Int) (h0 : 0 ≤ k) (h1 : k ≤ 100000000) (l : List Nd) (h : l.length + wNs l ≤ 1048576) : ∃ k' m', M.laws_markNodeS k (encNs true l) = some (k', encNs true m') ∧ 0 ≤ k' ∧ k' ≤ k + 10000000 := by
  have hw := wK_le l
  obtain ⟨k', m', hm, hk, hk2⟩ := markNodeS_loop l [] k h0 (by omega) (by simp; omega)
  refine ⟨k', m', ?_, hk, by omega⟩
  simp only [List.length_nil, List.nil_append, nat0] at hm
  simp only [M.laws_markNodeS, M.laws_markNodeS_C]
  rw [hm, some_bind]
theorem markNodeS_ok (l : List Nd) (h : l.length + wNs l ≤ 1048576) : ∃ k' m', M.laws_markNodeS 1 (encNs true l) = some (k', encNs true m') ∧ 0 ≤ k' := by
  obtain ⟨k', m', hm, hk, _⟩ := markNodeS_at 1 (by omega) (by omega) l h
  exact ⟨k', m', hm, hk⟩
theorem law_Preorder (l : List Nd) (hl : l.length ≤ maxLen) (hf : ∀ n, n ∈ l → Fit n) : M.laws_FnExactPreorder (encNs false l) = some true := by
  simp only [M.laws_FnExactPreorder, M.laws_FnExactPreorder_C]
  rw [szNodeS_ok l false 1048576 (by omega) (by omega) hl hf, some_bind]
  by_cases hs : (l.length + wNs l : Int) ≤ 1048576
  · rw [if_pos hs, decide_eq_false (by omega), cond_false]
    have hk : ∀ n, n ∈ l → n.kids.length ≤ 1048576 := by
      intro n hn
      have h1 := wNs_mem hn
      have h2 : wN n = n.text.length + n.other.length + n.kids.length := rfl
      omega
    have hll : l.length ≤ 1048576 := by omega
    have hlen := preAll_len l
    have hmax : (400 : Nat) ≤ maxLen := by decide
    obtain ⟨k', m', hm, hk0⟩ := markNodeS_ok l (by omega)
    simp only [toNodeS_ok l false hll hk, some_bind, fz_encNs, spec_Preorder_ok l false hll hk, impl_Preorder_ok l false hll hk, pure_oneI, cond_true, eqIntS_same _ (Nat.le_trans hlen hmax), Bool.not_true, cond_false,
      eqNodeS_same l false false hl (fun n hn => (hf n hn).kids), hm, markIntS_ok 1 (preAll l) (by omega) (by omega) (by omega), heldIntS_ok 1 (preAll l).length (by omega) (by omega) (by omega), bne_self_eq_false]
    rw [decide_eq_false (by omega), cond_false, decide_eq_false (by omega)]
    rfl
  · rw [if_neg hs]; rfl
end Go.Proofs.Ytfbemlhfieemhaa
