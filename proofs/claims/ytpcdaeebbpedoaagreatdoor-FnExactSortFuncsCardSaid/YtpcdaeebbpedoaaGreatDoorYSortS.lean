import Derived.Test.YtpcdaeebbpedoaaGreatDoorYSortR
namespace Go.Proofs.YtpcdaeebbpedoaaGreatDoor
set_option linter.unusedVariables false
set_option linter.unusedSimpArgs false
open Go Go.Vm
theorem half_loop {b : Int × Int → Option ((Int × Int) ⊕ (Int × Int))} {T : Nat → Bool} {lo hi : Nat}
    (hstep : ∀ i j : Nat, lo ≤ i → i < j → j ≤ hi → b ((i : Int), (j : Int)) = some (.inl (bif T ((i + j) / 2) then (((((i + j) / 2 + 1 : Nat)) : Int), (j : Int)) else ((i : Int), (((i + j) / 2 : Nat) : Int)))))
    (hend : ∀ i : Nat, lo ≤ i → i ≤ hi → b ((i : Int), (i : Int)) = some (.inr ((i : Int), (i : Int)))) :
    ∀ (d i j : Nat), j - i ≤ d → lo ≤ i → i ≤ j → j ≤ hi → (lo < i → T (i - 1) = true) → (j < hi → T j = false) →
      ∃ k : Nat, loopM b ((i : Int), (j : Int)) = some ((k : Int), (k : Int)) ∧ lo ≤ k ∧ k ≤ hi ∧ (lo < k → T (k - 1) = true) ∧ (k < hi → T k = false)
  | d, i, j, hd, h1, h2, h3, h4, h5 => by
    by_cases e : i = j
    · subst e
      exact ⟨i, loopM_end (hend i h1 h3), h1, h3, h4, h5⟩
    · cases d with
      | zero => omega
      | succ d =>
        have hs := hstep i j h1 (by omega) h3
        cases hT : T ((i + j) / 2) with
        | true =>
          rw [hT, cond_true] at hs
          obtain ⟨k, k1, k2⟩ := half_loop hstep hend d ((i + j) / 2 + 1) j (by omega) (by omega) (by omega) h3 (fun _ => by rw [Nat.add_sub_cancel]; exact hT) h5
          exact ⟨k, (loopM_next hs).trans k1, k2⟩
        | false =>
          rw [hT, cond_false] at hs
          obtain ⟨k, k1, k2⟩ := half_loop hstep hend d i ((i + j) / 2) (by omega) h1 (by omega) (by omega) h4 (fun _ => hT)
          exact ⟨k, (loopM_next hs).trans k1, k2⟩
theorem half_ok {x y : Nat} (h : x + y ≤ 1000000000000) : IntKind.i64.wrap ((IntKind.u64.wrap (IntKind.i64.wrap ((x : Int) + (y : Int)))).fdiv 2) = (((x + y) / 2 : Nat) : Int) := by
  have w1 : IntKind.i64.wrap ((x : Int) + (y : Int)) = ((x + y : Nat) : Int) := wI (by omega) h
  have w2 : IntKind.u64.wrap ((x + y : Nat) : Int) = ((x + y : Nat) : Int) := by
    exact IntWalk.u64_in _ ⟨by omega, by omega⟩
  rw [w1, w2]
  have : ((x + y : Nat) : Int).fdiv 2 = (((x + y) / 2 : Nat) : Int) := by
    rw [Int.fdiv_eq_ediv_of_nonneg _ (by omega)]; omega
  rw [this]
  exact wI rfl (by omega)
section
variable {tt : Nat → Tn} {g : Nat → Nat} {n : Nat} {rec : Int → Int → Int → List Row → Option (List Row)}
theorem l3_ok {a m b : Nat} (h1 : a < m) (h2 : m ≤ b) (h3 : b ≤ n) (hn : n ≤ 1000000) : ∃ k : Nat, M.slices_symMergeCmpFunc_l3 rec (a : Int) (arrR (encT' tt) g n) ((m : Int), (b : Int)) = some ((k : Int), (k : Int)) ∧ m ≤ k ∧ k ≤ b ∧
    (m < k → kls (kyT tt) (g (k - 1)) (g a) = true) ∧ (k < b → kls (kyT tt) (g k) (g a) = false) := by
  refine half_loop (T := fun h => kls (kyT tt) (g h) (g a)) (fun i j hi hij hj => ?_) (fun i hi hj => ?_) (b - m) m b (Nat.le_refl _) (Nat.le_refl _) h2 (Nat.le_refl _) (fun h => by omega) (fun h => by omega)
  · have w1 := half_ok (x := i) (y := j) (by omega)
    have w2 : IntKind.i64.wrap ((((i + j) / 2 : Nat) : Int) + 1) = (((i + j) / 2 + 1 : Nat) : Int) := wI (by omega) (by omega)
    have g1 := get_rows (tt := tt) (g := g) (n := n) (k := (i + j) / 2) (by omega)
    have g2 := get_rows (tt := tt) (g := g) (n := n) (k := a) (by omega)
    obtain ⟨r, hr, hd⟩ := cmp_ok tt (g ((i + j) / 2)) (g a)
    simp only [M.slices_symMergeCmpFunc_l3_b, M.slices_symMergeCmpFunc_l3_C, w1, w2, idx_nat, Int.toNat_natCast, g1, g2, some_bind, c0r, c1r, c2r, c3r, ro_row, hr, hd]
    rw [decide_eq_true (by omega), cond_true]
    cases kls (kyT tt) (g ((i + j) / 2)) (g a) <;> rfl
  · simp only [M.slices_symMergeCmpFunc_l3_b, M.slices_symMergeCmpFunc_l3_C]
    rw [decide_eq_false (by omega), cond_false]
theorem l15_ok {a m : Nat} (h1 : a ≤ m) (h3 : m < n) (hn : n ≤ 1000000) : ∃ k : Nat, M.slices_symMergeCmpFunc_l15 rec (m : Int) (arrR (encT' tt) g n) ((a : Int), (m : Int)) = some ((k : Int), (k : Int)) ∧ a ≤ k ∧ k ≤ m ∧
    (a < k → kls (kyT tt) (g m) (g (k - 1)) = false) ∧ (k < m → kls (kyT tt) (g m) (g k) = true) := by
  have key := half_loop (b := M.slices_symMergeCmpFunc_l15_b rec (m : Int) (arrR (encT' tt) g n)) (lo := a) (hi := m) (T := fun h => !(kls (kyT tt) (g m) (g h))) (fun i j hi hij hj => ?_) (fun i hi hj => ?_) (m - a) a m (Nat.le_refl _) (Nat.le_refl _) h1 (Nat.le_refl _) (fun h => by omega) (fun h => by omega)
  · obtain ⟨k, k1, k2, k3, k4, k5⟩ := key
    exact ⟨k, k1, k2, k3, fun h => by simpa using k4 h, fun h => by simpa using k5 h⟩
  · have w1 := half_ok (x := i) (y := j) (by omega)
    have w2 : IntKind.i64.wrap ((((i + j) / 2 : Nat) : Int) + 1) = (((i + j) / 2 + 1 : Nat) : Int) := wI (by omega) (by omega)
    have g1 := get_rows (tt := tt) (g := g) (n := n) (k := (i + j) / 2) (by omega)
    have g2 := get_rows (tt := tt) (g := g) (n := n) (k := m) (by omega)
    obtain ⟨r, hr, hd⟩ := cmp_ok tt (g m) (g ((i + j) / 2))
    simp only [M.slices_symMergeCmpFunc_l15_b, M.slices_symMergeCmpFunc_l15_C, w1, w2, idx_nat, Int.toNat_natCast, g1, g2, some_bind, c0r, c1r, c2r, c3r, ro_row, hr, hd]
    rw [decide_eq_true (by omega), cond_true]
    cases kls (kyT tt) (g m) (g ((i + j) / 2)) <;> rfl
  · simp only [M.slices_symMergeCmpFunc_l15_b, M.slices_symMergeCmpFunc_l15_C]
    rw [decide_eq_false (by omega), cond_false]
theorem l33_ok {lo hi p : Nat} {x1 x2 x3 x4 x5 : Int} (h1 : lo ≤ hi) (hp : hi ≤ p + 1) (hpn : p < n + lo) (hh : hi ≤ n) (hn : n ≤ 1000000) : ∃ k : Nat, M.slices_symMergeCmpFunc_l33 rec x1 x2 x3 x4 x5 (p : Int) (arrR (encT' tt) g n) ((lo : Int), (hi : Int)) = some ((k : Int), (k : Int)) ∧ lo ≤ k ∧ k ≤ hi ∧
    (lo < k → kls (kyT tt) (g (p - (k - 1))) (g (k - 1)) = false) ∧ (k < hi → kls (kyT tt) (g (p - k)) (g k) = true) := by
  have key := half_loop (b := M.slices_symMergeCmpFunc_l33_b rec x1 x2 x3 x4 x5 (p : Int) (arrR (encT' tt) g n)) (lo := lo) (hi := hi) (T := fun h => !(kls (kyT tt) (g (p - h)) (g h))) (fun i j hi hij hj => ?_) (fun i hi hj => ?_) (hi - lo) lo hi (Nat.le_refl _) (Nat.le_refl _) h1 (Nat.le_refl _) (fun h => by omega) (fun h => by omega)
  · obtain ⟨k, k1, k2, k3, k4, k5⟩ := key
    exact ⟨k, k1, k2, k3, fun h => by simpa using k4 h, fun h => by simpa using k5 h⟩
  · have w1 := half_ok (x := i) (y := j) (by omega)
    have w2 : IntKind.i64.wrap ((((i + j) / 2 : Nat) : Int) + 1) = (((i + j) / 2 + 1 : Nat) : Int) := wI (by omega) (by omega)
    have w3 : IntKind.i64.wrap ((p : Int) - (((i + j) / 2 : Nat) : Int)) = ((p - (i + j) / 2 : Nat) : Int) := wI (by omega) (by omega)
    have g1 := get_rows (tt := tt) (g := g) (n := n) (k := (i + j) / 2) (by omega)
    have g2 := get_rows (tt := tt) (g := g) (n := n) (k := p - (i + j) / 2) (by omega)
    obtain ⟨r, hr, hd⟩ := cmp_ok tt (g (p - (i + j) / 2)) (g ((i + j) / 2))
    simp only [M.slices_symMergeCmpFunc_l33_b, M.slices_symMergeCmpFunc_l33_C, w1, w2, w3, idx_nat, Int.toNat_natCast, g1, g2, some_bind, c0r, c1r, c2r, c3r, ro_row, hr, hd]
    rw [decide_eq_true (by omega), cond_true]
    cases kls (kyT tt) (g (p - (i + j) / 2)) (g ((i + j) / 2)) <;> rfl
  · simp only [M.slices_symMergeCmpFunc_l33_b, M.slices_symMergeCmpFunc_l33_C]
    rw [decide_eq_false (by omega), cond_false]
theorem l9_ok {a i : Nat} (hi : a + 1 ≤ i) (hin : i ≤ n) (hn : n ≤ 1000000) : M.slices_symMergeCmpFunc_l9 rec (i : Int) ((a : Int), arrR (encT' tt) g n) = some (((i - 1 : Nat) : Int), arrR (encT' tt) (mvUp g a i) n) := by
  have w0 : IntKind.i64.wrap ((i : Int) - 1) = ((i - 1 : Nat) : Int) := wI (by omega) (by omega)
  have key : ∀ (d k : Nat), k + d = i - 1 → a ≤ k → M.slices_symMergeCmpFunc_l9 rec (i : Int) ((k : Int), arrR (encT' tt) (mvUp g a (k + 1)) n) = some (((i - 1 : Nat) : Int), arrR (encT' tt) (mvUp g a i) n) := by
    intro d
    induction d with
    | zero =>
      intro k hk ha
      have : k = i - 1 := by omega
      subst this
      rw [show i - 1 + 1 = i by omega, M.slices_symMergeCmpFunc_l9]
      apply loopM_end
      simp only [M.slices_symMergeCmpFunc_l9_b, M.slices_symMergeCmpFunc_l9_C, w0]
      rw [decide_eq_false (by omega), cond_false]
    | succ d ih =>
      intro k hk ha
      have r1 := ih (k + 1) (by omega) (by omega)
      have w1 : IntKind.i64.wrap ((k : Int) + 1) = ((k + 1 : Nat) : Int) := wI (by omega) (by omega)
      have g1 := get_rows (tt := tt) (g := mvUp g a (k + 1)) (n := n) (k := k) (by omega)
      have g2 := get_rows (tt := tt) (g := mvUp g a (k + 1)) (n := n) (k := k + 1) (by omega)
      have g3 : ∀ r, ((arrR (encT' tt) (mvUp g a (k + 1)) n).set k r)[k + 1]? = _ := fun r => get_set_rows (tt := tt) (g := mvUp g a (k + 1)) (n := n) (i := k) (k := k + 1) (r := r) (by omega) (by omega)
      rw [M.slices_symMergeCmpFunc_l9] at r1 ⊢
      rw [loopM_next (s' := (((k + 1 : Nat) : Int), arrR (encT' tt) (mvUp g a (k + 1 + 1)) n)) ?_]
      · exact r1
      · simp only [M.slices_symMergeCmpFunc_l9_b, M.slices_symMergeCmpFunc_l9_C, w0, w1, idx_nat, Int.toNat_natCast, g1, g2, g3, some_bind, c0r, c1r, c2r, c3r, ro_row, wr_row]
        rw [decide_eq_true (by omega), cond_true, swap_rows (by omega) (by omega), mvUp_step g ha]
  have := key (i - 1 - a) a (by omega) (Nat.le_refl _)
  rwa [mvUp_zero] at this
theorem l21_ok {m i : Nat} (hi : i ≤ m) (hin : m < n) (hn : n ≤ 1000000) : M.slices_symMergeCmpFunc_l21 rec (i : Int) ((m : Int), arrR (encT' tt) g n) = some ((i : Int), arrR (encT' tt) (mvDn g i m) n) := by
  have key : ∀ (d k : Nat), k = i + d → k ≤ m → M.slices_symMergeCmpFunc_l21 rec (i : Int) ((k : Int), arrR (encT' tt) (mvDn g k m) n) = some ((i : Int), arrR (encT' tt) (mvDn g i m) n) := by
    intro d
    induction d with
    | zero =>
      intro k hk ha
      have : k = i := by omega
      subst this
      rw [M.slices_symMergeCmpFunc_l21]
      apply loopM_end
      simp only [M.slices_symMergeCmpFunc_l21_b, M.slices_symMergeCmpFunc_l21_C]
      rw [decide_eq_false (by omega), cond_false]
    | succ d ih =>
      intro k hk ha
      have r1 := ih (k - 1) (by omega) (by omega)
      have w1 : IntKind.i64.wrap ((k : Int) - 1) = ((k - 1 : Nat) : Int) := wI (by omega) (by omega)
      have g1 := get_rows (tt := tt) (g := mvDn g k m) (n := n) (k := k) (by omega)
      have g2 := get_rows (tt := tt) (g := mvDn g k m) (n := n) (k := k - 1) (by omega)
      have g3 : ∀ r, ((arrR (encT' tt) (mvDn g k m) n).set k r)[k - 1]? = _ := fun r => get_set_rows (tt := tt) (g := mvDn g k m) (n := n) (i := k) (k := k - 1) (r := r) (by omega) (by omega)
      rw [M.slices_symMergeCmpFunc_l21] at r1 ⊢
      rw [loopM_next (s' := (((k - 1 : Nat) : Int), arrR (encT' tt) (mvDn g (k - 1) m) n)) ?_]
      · exact r1
      · simp only [M.slices_symMergeCmpFunc_l21_b, M.slices_symMergeCmpFunc_l21_C, w1, idx_nat, Int.toNat_natCast, g1, g2, g3, some_bind, c0r, c1r, c2r, c3r, ro_row, wr_row]
        rw [decide_eq_true (by omega), cond_true, swap_rows (by omega) (by omega), mvDn_step g (by omega) ha]
  have := key (m - i) m (by omega) (Nat.le_refl _)
  rwa [mvDn_zero] at this
end
end Go.Proofs.YtpcdaeebbpedoaaGreatDoor
