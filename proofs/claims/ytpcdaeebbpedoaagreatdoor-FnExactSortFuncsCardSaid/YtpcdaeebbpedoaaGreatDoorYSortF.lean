import Derived.Test.YtpcdaeebbpedoaaGreatDoorYSortX
namespace Go.Proofs.YtpcdaeebbpedoaaGreatDoor
set_option linter.unusedVariables false
set_option linter.unusedSimpArgs false
open Go Go.Vm
section
variable {tt : Nat → Tn} {n : Nat}
theorem blocks_loop (hn : n ≤ 1000000) {q : Nat} (hq : 0 < q) (hq2 : q ≤ 1000000) : ∀ (d c : Nat) (g : Nat → Nat), n - c * q ≤ d → c * q ≤ n → (∀ x, x < c → Seg (kls (kyT tt)) g (x * q) ((x + 1) * q)) → (∀ k, c * q ≤ k → g k = k) →
    ∃ (c' : Nat) (g' : Nat → Nat), M.slices_stableCmpFunc_l2 (n : Int) (q : Int) (((c * q : Nat) : Int), ((c * q + q : Nat) : Int), arrR (encT' tt) g n) = some (((c' * q : Nat) : Int), ((c' * q + q : Nat) : Int), arrR (encT' tt) g' n) ∧ c' * q ≤ n ∧ n < c' * q + q ∧
      Same g g' 0 n ∧ (∀ x, x < c' → Seg (kls (kyT tt)) g' (x * q) ((x + 1) * q)) ∧ (∀ k, c' * q ≤ k → g' k = k)
  | d, c, g, hd, hc, hs, hk => by
    have e : (c + 1) * q = c * q + q := by rw [Nat.add_mul, Nat.one_mul]
    by_cases h : c * q + q ≤ n
    · cases d with
      | zero => omega
      | succ d =>
        obtain ⟨g1, r1, r2, r3⟩ := insertion_ok (tt := tt) (g := g) (n := n) (a := c * q) (b := c * q + q) (by omega) h hn (fun k h1 _ => hk k h1)
        obtain ⟨c', g', q1, q2, q3, q4, q5, q6⟩ := blocks_loop hn hq hq2 d (c + 1) g1 (by omega) (by omega) (fun x hx => by
          by_cases ex : x = c
          · subst ex; rw [e]; exact r3
          · have hm : (x + 1) * q ≤ c * q := Nat.mul_le_mul_right _ (by omega)
            exact r2.seg (hs x (by omega)) (.inl hm)) (fun k h1 => by rw [r2.out k (by omega)]; exact hk k (by omega))
        refine ⟨c', g', ?_, q2, q3, (r2.wide (Nat.zero_le _) h).trans q4, q5, q6⟩
        have w1 : IntKind.i64.wrap (((c * q + q : Nat) : Int) + (q : Int)) = ((c * q + q + q : Nat) : Int) := wI (by omega) (by omega)
        rw [e] at q1
        rw [M.slices_stableCmpFunc_l2] at q1 ⊢
        rw [loopM_next (s' := (((c * q + q : Nat) : Int), ((c * q + q + q : Nat) : Int), arrR (encT' tt) g1 n)) ?_]
        · exact q1
        · simp only [M.slices_stableCmpFunc_l2_b, M.slices_stableCmpFunc_l2_C, r1, some_bind, w1]
          rw [decide_eq_true (by omega), cond_true]
    · refine ⟨c, g, ?_, hc, by omega, Same.refl _ _ _, hs, hk⟩
      rw [M.slices_stableCmpFunc_l2]
      apply loopM_end
      simp only [M.slices_stableCmpFunc_l2_b, M.slices_stableCmpFunc_l2_C]
      rw [decide_eq_false (by omega), cond_false]
theorem merge_pair (hn : n ≤ 1000000) {g : Nat → Nat} {s c b : Nat} (hs : 0 < s) (h : Half (kls (kyT tt)) s n c g) (hlt : c * (2 * s) + s < n) (hb : b = min (c * (2 * s) + 2 * s) n) :
    ∃ g', M.slices_symMergeCmpFunc ((c * (2 * s) : Nat) : Int) ((c * (2 * s) + s : Nat) : Int) (b : Int) (arrR (encT' tt) g n) = some (arrR (encT' tt) g' n) ∧ Same g g' 0 n ∧ Half (kls (kyT tt)) s n (c + 1) g' := by
  obtain ⟨p1, p2⟩ := h.parts (by omega)
  rw [← hb] at p2
  obtain ⟨g', r1, r2, r3⟩ := sym_ok (tt := tt) hn (b - c * (2 * s)) (c * (2 * s)) (c * (2 * s) + s) b g (Nat.le_refl _) (by omega) (by omega) (by omega) p1.1 p2.1 (Seg.crs p1 p2)
  exact ⟨g', M.slices_symMergeCmpFunc_of r1, r2.wide (Nat.zero_le _) (by omega), h.step (by omega) hb r2 r3⟩
theorem pairs_loop (hn : n ≤ 1000000) {s : Nat} (hs : 0 < s) (hs2 : s ≤ 1000000) : ∀ (d c : Nat) (g : Nat → Nat), n - c * (2 * s) ≤ d → c * (2 * s) ≤ n → Half (kls (kyT tt)) s n c g →
    ∃ (c' : Nat) (g' : Nat → Nat), M.slices_stableCmpFunc_l9 (n : Int) (s : Int) (((c * (2 * s) : Nat) : Int), ((c * (2 * s) + 2 * s : Nat) : Int), arrR (encT' tt) g n) = some (((c' * (2 * s) : Nat) : Int), ((c' * (2 * s) + 2 * s : Nat) : Int), arrR (encT' tt) g' n) ∧ c' * (2 * s) ≤ n ∧ n < c' * (2 * s) + 2 * s ∧
      Same g g' 0 n ∧ Half (kls (kyT tt)) s n c' g'
  | d, c, g, hd, hc, h => by
    have e : (c + 1) * (2 * s) = c * (2 * s) + 2 * s := by rw [Nat.add_mul, Nat.one_mul]
    by_cases hb : c * (2 * s) + 2 * s ≤ n
    · cases d with
      | zero => omega
      | succ d =>
        obtain ⟨g1, r1, r2, r3⟩ := merge_pair (tt := tt) hn hs h (by omega) (b := c * (2 * s) + 2 * s) (by omega)
        obtain ⟨c', g', q1, q2, q3, q4, q5⟩ := pairs_loop hn hs hs2 d (c + 1) g1 (by omega) (by omega) r3
        refine ⟨c', g', ?_, q2, q3, r2.trans q4, q5⟩
        have w1 : IntKind.i64.wrap (((c * (2 * s) : Nat) : Int) + (s : Int)) = ((c * (2 * s) + s : Nat) : Int) := wI (by omega) (by omega)
        have w2 : IntKind.i64.wrap (2 * (s : Int)) = ((2 * s : Nat) : Int) := wI (by omega) (by omega)
        have w3 : IntKind.i64.wrap (((c * (2 * s) + 2 * s : Nat) : Int) + ((2 * s : Nat) : Int)) = ((c * (2 * s) + 2 * s + 2 * s : Nat) : Int) := wI (by omega) (by omega)
        rw [e] at q1
        rw [M.slices_stableCmpFunc_l9] at q1 ⊢
        rw [loopM_next (s' := (((c * (2 * s) + 2 * s : Nat) : Int), ((c * (2 * s) + 2 * s + 2 * s : Nat) : Int), arrR (encT' tt) g1 n)) ?_]
        · exact q1
        · simp only [M.slices_stableCmpFunc_l9_b, M.slices_stableCmpFunc_l9_C, w1, r1, some_bind, w2, w3]
          rw [decide_eq_true (by omega), cond_true]
    · refine ⟨c, g, ?_, hc, by omega, Same.refl _ _ _, h⟩
      rw [M.slices_stableCmpFunc_l9]
      apply loopM_end
      simp only [M.slices_stableCmpFunc_l9_b, M.slices_stableCmpFunc_l9_C]
      rw [decide_eq_false (by omega), cond_false]
theorem rounds_loop (hn : n ≤ 1000000) : ∀ (d s : Nat) (g : Nat → Nat), n - s ≤ d → 0 < s → Blk (kls (kyT tt)) s n g →
    ∃ (s' : Int) (g' : Nat → Nat), M.slices_stableCmpFunc_l7 (n : Int) ((s : Int), arrR (encT' tt) g n) = some (s', arrR (encT' tt) g' n) ∧ Same g g' 0 n ∧ Srt (kls (kyT tt)) g' 0 n
  | d, s, g, hd, hs, h => by
    by_cases hb : s < n
    · cases d with
      | zero => omega
      | succ d =>
        have w2 : IntKind.i64.wrap (2 * (s : Int)) = ((2 * s : Nat) : Int) := wI (by omega) (by omega)
        have w4 : IntKind.i64.wrap ((s : Int) * 2) = ((2 * s : Nat) : Int) := wI (by omega) (by omega)
        obtain ⟨c', g1, q1, q2, q3, q4, q5⟩ := pairs_loop (tt := tt) hn hs (by omega) n 0 g (by omega) (by omega) (Half.zero h)
        rw [show 0 * (2 * s) = 0 by omega, Nat.zero_add] at q1
        have q1' : M.slices_stableCmpFunc_l9 (n : Int) (s : Int) (0, ((2 * s : Nat) : Int), arrR (encT' tt) g n) = _ := q1
        have w1 : IntKind.i64.wrap (((c' * (2 * s) : Nat) : Int) + (s : Int)) = ((c' * (2 * s) + s : Nat) : Int) := wI (by omega) (by omega)
        have e : (c' + 1) * (2 * s) = c' * (2 * s) + 2 * s := by rw [Nat.add_mul, Nat.one_mul]
        have ht : decide ((s : Int) < (n : Int)) = true := decide_eq_true (by omega)
        by_cases hl : c' * (2 * s) + s < n
        · obtain ⟨g2, r1, r2, r3⟩ := merge_pair (tt := tt) hn hs q5 hl (b := n) (by omega)
          obtain ⟨s', g', u1, u2, u3⟩ := rounds_loop hn d (2 * s) g2 (by omega) (by omega) (r3.done (by omega))
          refine ⟨s', g', ?_, (q4.trans r2).trans u2, u3⟩
          rw [M.slices_stableCmpFunc_l7] at u1 ⊢
          rw [loopM_next (s' := (((2 * s : Nat) : Int), arrR (encT' tt) g2 n)) ?_]
          · exact u1
          · simp only [M.slices_stableCmpFunc_l7_b, M.slices_stableCmpFunc_l7_C, ht, cond_true, w2, q1', some_bind, w1, r1, w4]
            rw [decide_eq_true (by omega), cond_true]
        · obtain ⟨s', g', u1, u2, u3⟩ := rounds_loop hn d (2 * s) g1 (by omega) (by omega) (q5.last (by omega))
          refine ⟨s', g', ?_, q4.trans u2, u3⟩
          rw [M.slices_stableCmpFunc_l7] at u1 ⊢
          rw [loopM_next (s' := (((2 * s : Nat) : Int), arrR (encT' tt) g1 n)) ?_]
          · exact u1
          · simp only [M.slices_stableCmpFunc_l7_b, M.slices_stableCmpFunc_l7_C, ht, cond_true, w2, q1', some_bind, w1, w4]
            rw [decide_eq_false (by omega), cond_false]
    · refine ⟨(s : Int), g, ?_, Same.refl _ _ _, (h.all (by omega)).1⟩
      rw [M.slices_stableCmpFunc_l7]
      apply loopM_end
      simp only [M.slices_stableCmpFunc_l7_b, M.slices_stableCmpFunc_l7_C]
      rw [decide_eq_false (by omega), cond_false]
theorem blocks_ok (hn : n ≤ 1000000) {q : Nat} (hq : 0 < q) (hq2 : q ≤ 1000000) : ∃ (a : Nat) (b : Int) (g1 g2 : Nat → Nat), M.slices_stableCmpFunc_l2 (n : Int) (q : Int) (0, (q : Int), arrR (encT' tt) (fun k => k) n) = some ((a : Int), b, arrR (encT' tt) g1 n) ∧
    M.slices_insertionSortCmpFunc (a : Int) (n : Int) (arrR (encT' tt) g1 n) = some (arrR (encT' tt) g2 n) ∧ Same (fun k => k) g2 0 n ∧ Blk (kls (kyT tt)) q n g2 := by
  obtain ⟨c, g1, q1, q2, q3, q4, q5, q6⟩ := blocks_loop (tt := tt) hn hq hq2 n 0 (fun k => k) (by omega) (by omega) (fun x hx => by omega) (fun k _ => rfl)
  rw [Nat.zero_mul, Nat.zero_add] at q1
  obtain ⟨g2, r1, r2, r3⟩ := insertion_ok (tt := tt) (g := g1) (n := n) (a := c * q) (b := n) q2 (Nat.le_refl _) hn (fun k h1 _ => q6 k h1)
  refine ⟨c * q, _, g1, g2, q1, r1, q4.trans (r2.wide (Nat.zero_le _) (Nat.le_refl _)), fun d => ?_⟩
  by_cases h1 : d < c
  · have hm : (d + 1) * q ≤ c * q := Nat.mul_le_mul_right _ (by omega)
    rw [Nat.min_eq_left (by omega)]
    exact r2.seg (q5 d h1) (.inl hm)
  · by_cases h2 : d = c
    · subst h2
      have e : (d + 1) * q = d * q + q := by rw [Nat.add_mul, Nat.one_mul]
      rw [Nat.min_eq_right (by omega)]
      exact r3
    · have hm : (c + 1) * q ≤ d * q := Nat.mul_le_mul_right _ (by omega)
      have e : (c + 1) * q = c * q + q := by rw [Nat.add_mul, Nat.one_mul]
      exact Seg.nil (by omega)
theorem stable_ok (hn : n ≤ 1000000) : ∃ g, M.slices_SortStableFunc (arrR (encT' tt) (fun k => k) n) = some (arrR (encT' tt) g n) ∧ Same (fun k => k) g 0 n ∧ Srt (kls (kyT tt)) g 0 n := by
  obtain ⟨a, b, g1, g2, q1, r1, r2, hB⟩ := blocks_ok (tt := tt) (q := 20) hn (by decide) (by decide)
  obtain ⟨s', g', u1, u2, u3⟩ := rounds_loop (tt := tt) hn n 20 g2 (by omega) (by decide) hB
  have e20 : ((20 : Nat) : Int) = 20 := rfl
  rw [e20] at q1 u1
  refine ⟨g', ?_, r2.trans u2, u3⟩
  simp only [M.slices_SortStableFunc, M.slices_SortStableFunc_C, M.slices_stableCmpFunc, M.slices_stableCmpFunc_C, arrR_length, q1, some_bind, r1, u1]
end
end Go.Proofs.YtpcdaeebbpedoaaGreatDoor
