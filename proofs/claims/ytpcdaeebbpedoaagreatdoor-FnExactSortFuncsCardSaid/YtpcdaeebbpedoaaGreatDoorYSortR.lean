import Derived.Test.YtpcdaeebbpedoaaGreatDoorYSortM
namespace Go.Proofs.YtpcdaeebbpedoaaGreatDoor
set_option linter.unusedVariables false
set_option linter.unusedSimpArgs false
open Go Go.Vm
section
variable {tt : Nat → Tn} {g : Nat → Nat} {n : Nat}
theorem rot_loop {m : Nat} (hn : n ≤ 1000000) : ∀ (s i j : Nat) (g : Nat → Nat), i + j ≤ s → 0 < i → 0 < j → i ≤ m → m + j ≤ n →
    ∃ (i' : Nat) (g' : Nat → Nat), M.slices_rotateCmpFunc_l2 (m : Int) ((i : Int), (j : Int), arrR (encT' tt) g n) = some ((i' : Int), (i' : Int), arrR (encT' tt) g' n) ∧ i' ≤ m ∧ m + i' ≤ n ∧ swr g' (m - i') m i' = rot g (m - i) m (m + j)
  | 0, i, j, g, hs, h1, h2, h3, h4 => by omega
  | s + 1, i, j, g, hs, h1, h2, h3, h4 => by
    have w1 : IntKind.i64.wrap ((m : Int) - (i : Int)) = ((m - i : Nat) : Int) := wI (by omega) (by omega)
    by_cases e : i = j
    · subst e
      refine ⟨i, g, ?_, h3, h4, rot_eq h3⟩
      rw [M.slices_rotateCmpFunc_l2]
      apply loopM_end
      simp only [M.slices_rotateCmpFunc_l2_b, M.slices_rotateCmpFunc_l2_C, bne_self_eq_false, cond_false]
    · have hne : ((i : Int) != (j : Int)) = true := by
        rw [bne_iff_ne]; omega
      by_cases c : j < i
      · obtain ⟨i', g', r1, r2, r3, r4⟩ := rot_loop hn s (i - j) j (swr g (m - i) m j) (by omega) (by omega) h2 (by omega) h4
        refine ⟨i', g', ?_, r2, r3, r4.trans (rot_more c h3 h2)⟩
        have w2 : IntKind.i64.wrap ((i : Int) - (j : Int)) = ((i - j : Nat) : Int) := wI (by omega) (by omega)
        have sw := swapRange_ok (tt := tt) (g := g) (n := n) (a := m - i) (b := m) (c := j) (by omega) (by omega) hn
        rw [M.slices_rotateCmpFunc_l2] at r1 ⊢
        rw [loopM_next (s' := (((i - j : Nat) : Int), (j : Int), arrR (encT' tt) (swr g (m - i) m j) n)) ?_]
        · exact r1
        · simp only [M.slices_rotateCmpFunc_l2_b, M.slices_rotateCmpFunc_l2_C, hne, cond_true, w1, w2, sw, some_bind]
          rw [decide_eq_true (by omega), cond_true]
      · obtain ⟨i', g', r1, r2, r3, r4⟩ := rot_loop hn s i (j - i) (swr g (m - i) (m + j - i) i) (by omega) h1 (by omega) h3 (by omega)
        refine ⟨i', g', ?_, r2, r3, r4.trans (rot_less (by omega) h3 h1)⟩
        have w2 : IntKind.i64.wrap ((j : Int) - (i : Int)) = ((j - i : Nat) : Int) := wI (by omega) (by omega)
        have w3 : IntKind.i64.wrap ((m : Int) + (j : Int)) = ((m + j : Nat) : Int) := wI (by omega) (by omega)
        have w4 : IntKind.i64.wrap (((m + j : Nat) : Int) - (i : Int)) = ((m + j - i : Nat) : Int) := wI (by omega) (by omega)
        have sw := swapRange_ok (tt := tt) (g := g) (n := n) (a := m - i) (b := m + j - i) (c := i) (by omega) (by omega) hn
        rw [M.slices_rotateCmpFunc_l2] at r1 ⊢
        rw [loopM_next (s' := ((i : Int), ((j - i : Nat) : Int), arrR (encT' tt) (swr g (m - i) (m + j - i) i) n)) ?_]
        · exact r1
        · simp only [M.slices_rotateCmpFunc_l2_b, M.slices_rotateCmpFunc_l2_C, hne, cond_true, w1, w2, w3, w4, sw, some_bind]
          rw [decide_eq_false (by omega), cond_false]
theorem rotate_ok {a m b : Nat} (h1 : a < m) (h2 : m < b) (h3 : b ≤ n) (hn : n ≤ 1000000) : M.slices_rotateCmpFunc (a : Int) (m : Int) (b : Int) (arrR (encT' tt) g n) = some (arrR (encT' tt) (rot g a m b) n) := by
  have w1 : IntKind.i64.wrap ((m : Int) - (a : Int)) = ((m - a : Nat) : Int) := wI (by omega) (by omega)
  have w2 : IntKind.i64.wrap ((b : Int) - (m : Int)) = ((b - m : Nat) : Int) := wI (by omega) (by omega)
  obtain ⟨i', g', r1, r2, r3, r4⟩ := rot_loop (tt := tt) (m := m) hn (m - a + (b - m)) (m - a) (b - m) g (Nat.le_refl _) (by omega) (by omega) (by omega) (by omega)
  have w3 : IntKind.i64.wrap ((m : Int) - (i' : Int)) = ((m - i' : Nat) : Int) := wI (by omega) (by omega)
  have sw := swapRange_ok (tt := tt) (g := g') (n := n) (a := m - i') (b := m) (c := i') (by omega) (by omega) hn
  rw [show m - (m - a) = a by omega, show m + (b - m) = b by omega] at r4
  simp only [M.slices_rotateCmpFunc, M.slices_rotateCmpFunc_C, w1, w2, r1, some_bind, w3, sw, r4]
theorem ins_loop {a i : Nat} {b : Int} (hi : i < n) (hn : n ≤ 1000000) : ∀ (d j : Nat), j = a + d → j ≤ i → ∃ j', a ≤ j' ∧ j' ≤ j ∧
    M.slices_insertionSortCmpFunc_l4 (a : Int) b (i : Int) ((j : Int), arrR (encT' tt) (mvDn g j i) n) = some ((j' : Int), arrR (encT' tt) (mvDn g j' i) n) ∧
    (a < j' → kls (kyT tt) (g i) (g (j' - 1)) = false) ∧ (j' < j → kls (kyT tt) (g i) (g j') = true)
  | 0, j, hj, hji => by
    refine ⟨j, by omega, Nat.le_refl _, ?_, fun h => by omega, fun h => by omega⟩
    rw [M.slices_insertionSortCmpFunc_l4]
    apply loopM_end
    simp only [M.slices_insertionSortCmpFunc_l4_b, M.slices_insertionSortCmpFunc_l4_C]
    rw [decide_eq_false (by omega), cond_false]
  | d + 1, j, hj, hji => by
    have w1 : IntKind.i64.wrap ((j : Int) - 1) = ((j - 1 : Nat) : Int) := wI (by omega) (by omega)
    have g1 := get_rows (tt := tt) (g := mvDn g j i) (n := n) (k := j) (by omega)
    have g2 := get_rows (tt := tt) (g := mvDn g j i) (n := n) (k := j - 1) (by omega)
    have g3 : ∀ r, ((arrR (encT' tt) (mvDn g j i) n).set j r)[j - 1]? = _ := fun r => get_set_rows (tt := tt) (g := mvDn g j i) (n := n) (i := j) (k := j - 1) (r := r) (by omega) (by omega)
    obtain ⟨r, hr, hd⟩ := cmp_ok tt (mvDn g j i j) (mvDn g j i (j - 1))
    rw [mvDn_at, mvDn_lo g (by omega)] at hd
    have hja : decide ((j : Int) > (a : Int)) = true := decide_eq_true (by omega)
    cases hk : kls (kyT tt) (g i) (g (j - 1)) with
    | false =>
      refine ⟨j, by omega, Nat.le_refl _, ?_, fun _ => hk, fun h => by omega⟩
      rw [M.slices_insertionSortCmpFunc_l4]
      apply loopM_end
      simp only [M.slices_insertionSortCmpFunc_l4_b, M.slices_insertionSortCmpFunc_l4_C, hja, cond_true, w1, idx_nat, Int.toNat_natCast, g1, g2, some_bind, c0r, c1r, c2r, c3r, ro_row, hr, hd, hk, cond_false]
    | true =>
      obtain ⟨j', q1, q2, q3, q4, q5⟩ := ins_loop (a := a) (b := b) hi hn d (j - 1) (by omega) (by omega)
      refine ⟨j', q1, by omega, ?_, q4, fun h => ?_⟩
      · rw [M.slices_insertionSortCmpFunc_l4] at q3 ⊢
        rw [loopM_next (s' := (((j - 1 : Nat) : Int), arrR (encT' tt) (mvDn g (j - 1) i) n)) ?_]
        · exact q3
        · simp only [M.slices_insertionSortCmpFunc_l4_b, M.slices_insertionSortCmpFunc_l4_C, hja, cond_true, w1, idx_nat, Int.toNat_natCast, g1, g2, g3, some_bind, c0r, c1r, c2r, c3r, ro_row, hr, hd, hk, wr_row]
          rw [swap_rows (by omega) (by omega), mvDn_step g (by omega) hji]
      · by_cases e : j' < j - 1
        · exact q5 e
        · have : j' = j - 1 := by omega
          rw [this]; exact hk
theorem ins_outer {a b : Nat} (hb : b ≤ n) (hn : n ≤ 1000000) : ∀ (d i : Nat) (g : Nat → Nat), i + d = b → a ≤ i → Seg (kls (kyT tt)) g a i → (∀ k, i ≤ k → k < b → g k = k) →
    ∃ g', M.slices_insertionSortCmpFunc_l1 (a : Int) (b : Int) ((i : Int), arrR (encT' tt) g n) = some ((b : Int), arrR (encT' tt) g' n) ∧ Same g g' a b ∧ Seg (kls (kyT tt)) g' a b
  | 0, i, g, hi, ha, hs, hg => by
    have : i = b := by omega
    subst this
    refine ⟨g, ?_, Same.refl _ _ _, hs⟩
    rw [M.slices_insertionSortCmpFunc_l1]
    apply loopM_end
    simp only [M.slices_insertionSortCmpFunc_l1_b, M.slices_insertionSortCmpFunc_l1_C]
    rw [decide_eq_false (by omega), cond_false]
  | d + 1, i, g, hi, ha, hs, hg => by
    obtain ⟨j', q1, q2, q3, q4, q5⟩ := ins_loop (tt := tt) (g := g) (a := a) (i := i) (b := (b : Int)) (by omega) hn (i - a) i (by omega) (Nat.le_refl _)
    rw [mvDn_zero] at q3
    have hgi := hg i (Nat.le_refl _) (by omega)
    have s1 := ins_ok (kls_ko (kyT tt)) hs hgi ha q1 q2 q4 q5
    have s2 := mvDn_same (a := a) (i := j') (m := i) g q1 (i - j') j' (by omega) (Nat.le_refl _)
    obtain ⟨g', r1, r2, r3⟩ := ins_outer hb hn d (i + 1) (mvDn g j' i) (by omega) (by omega) s1 (fun k h1 h2 => by
      rw [s2.out k (by omega)]; exact hg k (by omega) h2)
    refine ⟨g', ?_, (s2.wide (Nat.le_refl _) (by omega)).trans r2, r3⟩
    have w1 : IntKind.i64.wrap ((i : Int) + 1) = ((i + 1 : Nat) : Int) := wI (by omega) (by omega)
    rw [M.slices_insertionSortCmpFunc_l1] at r1 ⊢
    rw [loopM_next (s' := (((i + 1 : Nat) : Int), arrR (encT' tt) (mvDn g j' i) n)) ?_]
    · exact r1
    · simp only [M.slices_insertionSortCmpFunc_l1_b, M.slices_insertionSortCmpFunc_l1_C, q3, some_bind, w1]
      rw [decide_eq_true (by omega), cond_true]
theorem insertion_ok {a b : Nat} (hab : a ≤ b) (hb : b ≤ n) (hn : n ≤ 1000000) (hg : ∀ k, a ≤ k → k < b → g k = k) :
    ∃ g', M.slices_insertionSortCmpFunc (a : Int) (b : Int) (arrR (encT' tt) g n) = some (arrR (encT' tt) g' n) ∧ Same g g' a b ∧ Seg (kls (kyT tt)) g' a b := by
  have w1 : IntKind.i64.wrap ((a : Int) + 1) = ((a + 1 : Nat) : Int) := wI (by omega) (by omega)
  by_cases h : a < b
  · have h1 : Seg (kls (kyT tt)) g a (a + 1) := ⟨fun p q q1 q2 q3 => by omega, fun k h1 h2 => by
      have : k = a := by omega
      subst this
      rw [hg k h1 (by omega)]; omega⟩
    obtain ⟨g', r1, r2, r3⟩ := ins_outer (tt := tt) (a := a) hb hn (b - (a + 1)) (a + 1) g (by omega) (by omega) h1 (fun k h1 h2 => hg k (by omega) h2)
    refine ⟨g', ?_, r2, r3⟩
    simp only [M.slices_insertionSortCmpFunc, M.slices_insertionSortCmpFunc_C, w1, r1, some_bind]
  · refine ⟨g, ?_, Same.refl _ _ _, Seg.nil (by omega)⟩
    have r1 : M.slices_insertionSortCmpFunc_l1 (a : Int) (b : Int) (((a + 1 : Nat) : Int), arrR (encT' tt) g n) = some (((a + 1 : Nat) : Int), arrR (encT' tt) g n) := by
      rw [M.slices_insertionSortCmpFunc_l1]
      apply loopM_end
      simp only [M.slices_insertionSortCmpFunc_l1_b, M.slices_insertionSortCmpFunc_l1_C]
      rw [decide_eq_false (by omega), cond_false]
    simp only [M.slices_insertionSortCmpFunc, M.slices_insertionSortCmpFunc_C, w1, r1, some_bind]
end
end Go.Proofs.YtpcdaeebbpedoaaGreatDoor
