import Derived.Test.YtghbceiigeialaaDStm2
namespace Go.Proofs.Ytghbceiigeialaa
set_option linter.unusedVariables false
set_option linter.unusedSimpArgs false
open Go Go.Vm
section
variable {s : Cu} (h : CuOk s)
include h
theorem block_ok {k : Nat} {deep : Int} {e : DF} {b : Nat} (hb : Bd b e) (hb2 : b ≤ 2000) (he : ∀ p, DT (M.spec_l7Stmt_N k deep (cS s p).1 (cS s p).2.1 (cS s p).2.2) s (e p)) (p : Nat) :
    DT (M.spec_l7Block_N (k + 1) deep (cS s p).1 (cS s p).2.1 (cS s p).2.2) s (blkS s.g e p) := by
  rw [M.spec_l7Block_s]
  simp only [M.spec_l7Block_C]
  have hmod := Nat.mod_lt (s.g p) (show 0 < 3 by omega)
  have hi := itS_bd hb (s.g p % 3) (p + 1)
  have h2 : (s.g p % 3) * b ≤ 2 * b := Nat.mul_le_mul_right b (by omega)
  refine bd (below_at h p 3 (by omega) (by omega)) ?_
  obtain ⟨us, k1, k2, k3, k4⟩ := loop_draws (s := s) (e := e) (b := M.spec_l7Block_l3_b (M.spec_l7Stmt_N k) deep) (fun p x => rfl) (fun n p ts hn ht => by
    obtain ⟨t, f1, z1, i1⟩ := he p
    refine ⟨t, ?_, z1, i1⟩
    simp only [M.spec_l7Block_l3_b, M.spec_l7Block_l3_C, f1, some_bind, List.length_map, List.length_singleton]
    rw [decide_eq_true (by omega), cond_true, ble_ok (by omega), cond_true, ble_ok (by omega), cond_true, wrap_ok (by omega) (by omega), rows_snoc]
    simp) (s.g p % 3) (p + 1) [] (by simp; omega)
  have k1' : M.spec_l7Block_l3 (M.spec_l7Stmt_N k) deep (((s.g p % 3 : Nat) : Int), (cS s (p + 1)).1, (cS s (p + 1)).2.1, (cS s (p + 1)).2.2, []) = _ := k1
  exact bd k1' (made 33 0 [] [] us (by rw [k2]) (by omega) (by omega) (by omega) short_nil short_nil k4)
omit h in
theorem stm_num {d : Nat} (hd : d ≤ 2) : ∃ b, b ≤ 500 ∧ Bd b (stmS s.g d) := by
  have : d = 0 ∨ d = 1 ∨ d = 2 := by omega
  rcases this with rfl | rfl | rfl
  · exact ⟨17, by omega, stm_bd0⟩
  · exact ⟨109, by omega, stm_bd1⟩
  · exact ⟨453, by omega, stm_bd2⟩
theorem stmt_step {d j : Nat} (hd : d + 1 ≤ 2) (H : ST s j d) : ST s (j + 2) (d + 1) := by
  intro deep l1 l3 p
  obtain ⟨b, hb1, hb2⟩ := stm_num (s := s) (show d ≤ 2 by omega)
  have w1 : IntKind.i64.wrap (deep - 1) = deep - 1 := wrap_ok (by omega) (by omega)
  have B := fun q => block_ok h hb2 (by omega) (H (deep - 1) (by omega) (by omega)) q
  have BB := blk_bd (g := s.g) hb2
  obtain ⟨b', hb1', hb2'⟩ := stm_num (s := s) hd
  have hB := hb2' p
  have hB3 : (stmS s.g (d + 1) p).1 ≤ 900000 := by omega
  have hm := Nat.mod_lt (s.g (p + 1)) (show 0 < 6 by omega)
  have X1 := fun q => expr_ok h (deep := 1) (by omega) (by omega) q
  have e1 : (1 : Int).toNat = 1 := rfl
  have e2 : (2 : Int).toNat = 2 := rfl
  rw [e1] at X1
  have M1 := fun q => maybe_ok h (deep := 1) (by omega) (by omega) q
  have M2 := fun q => maybe_ok h (deep := 2) (by omega) (by omega) q
  rw [e1] at M1
  rw [e2] at M2
  rw [M.spec_l7Stmt_s]
  simp only [M.spec_l7Stmt_C, w1]
  rw [decide_eq_false (by omega), cond_false, decide_eq_false (by omega), cond_false]
  rw [stmS] at hB3 ⊢
  unfold stmStep at hB3 ⊢
  refine bd (once_at h p 3 (by omega) (by omega)) ?_
  rw [beq_dec]
  cases hq : Nat.beq (s.g p % 3) 0 with
  | false =>
    obtain ⟨t, f, z, i⟩ := simple_ok h l1 (show deep ≤ 2 by omega) (p + 1)
    rw [show min (d + 1) 2 = deep.toNat by omega]
    exact bd f ⟨t, rfl, z, i⟩
  | true =>
    rw [hq] at hB3
    simp only [cond_true] at hB3
    simp only [Bool.not_true, cond_false, cond_true]
    refine bd (below_at h (p + 1) 6 (by omega) (by omega)) ?_
    have hc : s.g (p + 1) % 6 = 0 ∨ s.g (p + 1) % 6 = 1 ∨ s.g (p + 1) % 6 = 2 ∨ s.g (p + 1) % 6 = 3 ∨ s.g (p + 1) % 6 = 4 ∨ s.g (p + 1) % 6 = 5 := by omega
    have nn : ∀ c : Int, ((s.g (p + 1) % 6 : Nat) : Int) ≠ c → (((s.g (p + 1) % 6 : Nat) : Int) == c) = false := fun c hn => beq_eq_false_iff_ne.2 hn
    have yy : ∀ c : Int, ((s.g (p + 1) % 6 : Nat) : Int) = c → (((s.g (p + 1) % 6 : Nat) : Int) == c) = true := fun c hn => beq_iff_eq.2 hn
    rcases hc with hc | hc | hc | hc | hc | hc
    · simp only [yy 0 (by omega), cond_false, cond_true]
      rw [hc] at hB3 ⊢
      replace hB3 : (up (two (exprS s.g 1) (blkS s.g (stmS s.g d)) (p + 2))).1 ≤ 900000 := hB3
      show DT _ s (up (two (exprS s.g 1) (blkS s.g (stmS s.g d)) (p + 2)))
      simp only [up, two] at hB3 ⊢
      obtain ⟨t1, f1, z1, i1⟩ := X1 (p + 2)
      obtain ⟨t2, f2, z2, i2⟩ := B (exprS s.g 1 (p + 2)).2
      exact bd f1 (bd f2 (made 28 0 [] [] [t1, t2] (by simp only [sizes, z1, z2]; omega) hB3 (by omega) (by omega) short_nil short_nil (by simp [i1, i2])))
    · simp only [nn 0 (by omega), yy 1 (by omega), cond_false, cond_true]
      rw [hc] at hB3 ⊢
      replace hB3 : (up (two (exprS s.g 1) (two (blkS s.g (stmS s.g d)) (blkS s.g (stmS s.g d))) (p + 2))).1 ≤ 900000 := hB3
      show DT _ s (up (two (exprS s.g 1) (two (blkS s.g (stmS s.g d)) (blkS s.g (stmS s.g d))) (p + 2)))
      simp only [up, two] at hB3 ⊢
      obtain ⟨t1, f1, z1, i1⟩ := X1 (p + 2)
      obtain ⟨t2, f2, z2, i2⟩ := B (exprS s.g 1 (p + 2)).2
      obtain ⟨t3, f3, z3, i3⟩ := B (blkS s.g (stmS s.g d) (exprS s.g 1 (p + 2)).2).2
      exact bd f1 (bd f2 (bd f3 (made 28 0 [] [] [t1, t2, t3] (by simp only [sizes, z1, z2, z3]; omega) hB3 (by omega) (by omega) short_nil short_nil (by simp [i1, i2, i3]))))
    · simp only [nn 0 (by omega), nn 1 (by omega), yy 2 (by omega), cond_false, cond_true]
      rw [hc] at hB3 ⊢
      replace hB3 : (up (two (exprS s.g 1) (blkS s.g (stmS s.g d)) (p + 2))).1 ≤ 900000 := hB3
      show DT _ s (up (two (exprS s.g 1) (blkS s.g (stmS s.g d)) (p + 2)))
      simp only [up, two] at hB3 ⊢
      obtain ⟨t1, f1, z1, i1⟩ := X1 (p + 2)
      obtain ⟨t2, f2, z2, i2⟩ := B (exprS s.g 1 (p + 2)).2
      exact bd f1 (bd f2 (made 29 0 [] [] [t1, t2] (by simp only [sizes, z1, z2]; omega) hB3 (by omega) (by omega) short_nil short_nil (by simp [i1, i2])))
    · simp only [nn 0 (by omega), nn 1 (by omega), nn 2 (by omega), yy 3 (by omega), cond_false, cond_true]
      rw [hc] at hB3 ⊢
      replace hB3 : (up (two (blkS s.g (stmS s.g d)) (exprS s.g 1) (p + 2))).1 ≤ 900000 := hB3
      show DT _ s (up (two (blkS s.g (stmS s.g d)) (exprS s.g 1) (p + 2)))
      simp only [up, two] at hB3 ⊢
      obtain ⟨t1, f1, z1, i1⟩ := B (p + 2)
      obtain ⟨t2, f2, z2, i2⟩ := X1 (blkS s.g (stmS s.g d) (p + 2)).2
      exact bd f1 (bd f2 (made 30 0 [] [] [t1, t2] (by simp only [sizes, z1, z2]; omega) hB3 (by omega) (by omega) short_nil short_nil (by simp [i1, i2])))
    · simp only [nn 0 (by omega), nn 1 (by omega), nn 2 (by omega), nn 3 (by omega), yy 4 (by omega), cond_false, cond_true]
      rw [hc] at hB3 ⊢
      replace hB3 : (up (two (mayS s.g 2) (two (mayS s.g 1) (two (mayS s.g 1) (blkS s.g (stmS s.g d)))) (p + 2))).1 ≤ 900000 := hB3
      show DT _ s (up (two (mayS s.g 2) (two (mayS s.g 1) (two (mayS s.g 1) (blkS s.g (stmS s.g d)))) (p + 2)))
      simp only [up, two] at hB3 ⊢
      obtain ⟨t1, f1, z1, i1⟩ := M2 (p + 2)
      obtain ⟨t2, f2, z2, i2⟩ := M1 (mayS s.g 2 (p + 2)).2
      obtain ⟨t3, f3, z3, i3⟩ := M1 (mayS s.g 1 (mayS s.g 2 (p + 2)).2).2
      obtain ⟨t4, f4, z4, i4⟩ := B (mayS s.g 1 (mayS s.g 1 (mayS s.g 2 (p + 2)).2).2).2
      exact bd f1 (bd f2 (bd f3 (bd f4 (made 31 0 [] [] [t1, t2, t3, t4] (by simp only [sizes, z1, z2, z3, z4]; omega) hB3 (by omega) (by omega) short_nil short_nil (by simp [i1, i2, i3, i4])))))
    · simp only [nn 0 (by omega), nn 1 (by omega), nn 2 (by omega), nn 3 (by omega), nn 4 (by omega), cond_false, cond_true]
      rw [hc] at hB3 ⊢
      replace hB3 : (bif Nat.beq (s.g (p + 2) % 2) 0 then blkS s.g (stmS s.g d) (p + 3) else up (blkS s.g (stmS s.g d) (p + 5))).1 ≤ 900000 := hB3
      show DT _ s (bif Nat.beq (s.g (p + 2) % 2) 0 then blkS s.g (stmS s.g d) (p + 3) else up (blkS s.g (stmS s.g d) (p + 5)))
      refine bd (once_at h (p + 2) 2 (by omega) (by omega)) ?_
      rw [beq_dec]
      cases hr : Nat.beq (s.g (p + 2) % 2) 0 with
      | true =>
        obtain ⟨t, f, z, i⟩ := B (p + 3)
        exact bd f ⟨t, rfl, z, i⟩
      | false =>
        rw [hr] at hB3
        obtain ⟨x, a, e⟩ := word_at h (p + 3)
        obtain ⟨y, c, e'⟩ := word_at h (p + 4)
        obtain ⟨t, f, z, i⟩ := B (p + 5)
        exact bd e (bd e' (bd f (made 32 0 x y [t] (by rw [sizes, sizes, z]) hB3 (by omega) (by omega) a c (fine_one i))))
theorem stmt_all : ∀ (d k : Nat), d ≤ 2 → 2 * d + 1 ≤ k → ST s k d
  | 0, k, _, hk => by
    obtain ⟨k, rfl⟩ : ∃ j, k = j + 1 := ⟨k - 1, by omega⟩
    intro deep l1 l3 p
    rw [M.spec_l7Stmt_s]
    simp only [M.spec_l7Stmt_C]
    rw [decide_eq_true (by omega), cond_true, decide_eq_false (by omega), cond_false]
    obtain ⟨t, f, z, i⟩ := simple_ok h l1 (show deep ≤ 2 by omega) p
    rw [l3] at f z
    exact bd f ⟨t, rfl, z, i⟩
  | d + 1, k, hd, hk => by
    obtain ⟨j, rfl⟩ : ∃ j, k = j + 2 := ⟨k - 2, by omega⟩
    exact stmt_step h hd (stmt_all d j (by omega) (by omega))
theorem stmt_ok {deep : Int} (l1 : 0 ≤ deep) (l2 : deep ≤ 2) (p : Nat) : DT (M.spec_l7Stmt deep (cS s p).1 (cS s p).2.1 (cS s p).2.2) s (stmS s.g deep.toNat p) := by
  obtain ⟨t, f, z, i⟩ := stmt_all h deep.toNat (2 * deep.toNat + 1) (by omega) (Nat.le_refl _) deep l1 rfl p
  exact ⟨t, M.spec_l7Stmt_of f, z, i⟩
theorem blk_ok {deep : Int} (l1 : 0 ≤ deep) (l2 : deep ≤ 2) (p : Nat) : DT (M.spec_l7Block deep (cS s p).1 (cS s p).2.1 (cS s p).2.2) s (blkS s.g (stmS s.g deep.toNat) p) := by
  obtain ⟨b, hb1, hb2⟩ := stm_num (s := s) (show deep.toNat ≤ 2 by omega)
  obtain ⟨t, f, z, i⟩ := block_ok h hb2 (by omega) (stmt_all h deep.toNat (2 * deep.toNat + 1) (by omega) (Nat.le_refl _) deep l1 rfl) p
  exact ⟨t, M.spec_l7Block_of f, z, i⟩
theorem item_ok (p : Nat) : DT (M.spec_l7Item (cS s p).1 (cS s p).2.1 (cS s p).2.2) s (itemS s.g p) := by
  have hB := item_bd (g := s.g) p
  have hB3 : (itemS s.g p).1 ≤ 900000 := by omega
  have hm := Nat.mod_lt (s.g (p + 1)) (show 0 < 8 by omega)
  have hm2 := Nat.mod_lt (s.g p) (show 0 < 2 by omega)
  simp only [M.spec_l7Item, M.spec_l7Item_C]
  refine bd (below_at h p 2 (by omega) (by omega)) (bd (below_at h (p + 1) 8 (by omega) (by omega)) ?_)
  have w1 : IntKind.i64.wrap (1 + ((s.g p % 2 : Nat) : Int)) = ((1 + s.g p % 2 : Nat) : Int) := by rw [wrap_ok (by omega) (by omega)]; omega
  simp only [w1]
  have t1 : ((1 + s.g p % 2 : Nat) : Int).toNat = 1 + s.g p % 2 := Int.toNat_natCast _
  have B := fun q => blk_ok h (deep := ((1 + s.g p % 2 : Nat) : Int)) (by omega) (by omega) q
  have E := fun q => expr_ok h (deep := ((1 + s.g p % 2 : Nat) : Int)) (by omega) (by omega) q
  have E1 := fun q => expr_ok h (deep := 1) (by omega) (by omega) q
  rw [t1] at B E
  rw [show (1 : Int).toNat = 1 from rfl] at E1
  unfold itemS at hB3 ⊢
  have hc : s.g (p + 1) % 8 = 0 ∨ s.g (p + 1) % 8 = 1 ∨ s.g (p + 1) % 8 = 2 ∨ s.g (p + 1) % 8 = 3 ∨ s.g (p + 1) % 8 = 4 ∨ s.g (p + 1) % 8 = 5 ∨ s.g (p + 1) % 8 = 6 ∨ s.g (p + 1) % 8 = 7 := by omega
  have nn : ∀ c : Int, ((s.g (p + 1) % 8 : Nat) : Int) ≠ c → (((s.g (p + 1) % 8 : Nat) : Int) == c) = false := fun c hn => beq_eq_false_iff_ne.2 hn
  have yy : ∀ c : Int, ((s.g (p + 1) % 8 : Nat) : Int) = c → (((s.g (p + 1) % 8 : Nat) : Int) == c) = true := fun c hn => beq_iff_eq.2 hn
  rcases hc with hc | hc | hc | hc | hc | hc | hc | hc
  · simp only [yy 0 (by omega), cond_false, cond_true]
    rw [hc] at hB3 ⊢
    replace hB3 : (up (blkS s.g (stmS s.g (1 + s.g p % 2)) (p + 3))).1 ≤ 900000 := hB3
    show DT _ s (up (blkS s.g (stmS s.g (1 + s.g p % 2)) (p + 3)))
    have hm3 := Nat.mod_lt (s.g (p + 2)) (show 0 < 2 by omega)
    obtain ⟨t, f, z, i⟩ := B (p + 3)
    exact bd (below_at h (p + 2) 2 (by omega) (by omega)) (bd f (made _ 0 [] [] [t] (by rw [sizes, sizes, z]) hB3 (by rw [wrap_ok (by omega) (by omega)]; omega) (by omega) short_nil short_nil (fine_one i)))
  · simp only [nn 0 (by omega), yy 1 (by omega), cond_false, cond_true]
    rw [hc] at hB3 ⊢
    replace hB3 : (up (exprS s.g (1 + s.g p % 2) (p + 2))).1 ≤ 900000 := hB3
    show DT _ s (up (exprS s.g (1 + s.g p % 2) (p + 2)))
    obtain ⟨t, f, z, i⟩ := E (p + 2)
    exact bd f (made 42 1 [] [] [t] (by rw [sizes, sizes, z]) hB3 (by omega) (by omega) short_nil short_nil (fine_one i))
  · simp only [nn 0 (by omega), nn 1 (by omega), yy 2 (by omega), cond_false, cond_true]
    rw [hc] at hB3 ⊢
    replace hB3 : (up (blkS s.g (stmS s.g (1 + s.g p % 2)) (p + 2))).1 ≤ 900000 := hB3
    show DT _ s (up (blkS s.g (stmS s.g (1 + s.g p % 2)) (p + 2)))
    obtain ⟨t, f, z, i⟩ := B (p + 2)
    exact bd f (made 42 2 [] [] [t] (by rw [sizes, sizes, z]) hB3 (by omega) (by omega) short_nil short_nil (fine_one i))
  · simp only [nn 0 (by omega), nn 1 (by omega), nn 2 (by omega), yy 3 (by omega), cond_false, cond_true]
    rw [hc] at hB3 ⊢
    replace hB3 : (up (two (exprS s.g 1) (exprS s.g 1) (p + 2))).1 ≤ 900000 := hB3
    show DT _ s (up (two (exprS s.g 1) (exprS s.g 1) (p + 2)))
    simp only [up, two] at hB3 ⊢
    obtain ⟨t1, f1, z1, i1⟩ := E1 (p + 2)
    obtain ⟨t2, f2, z2, i2⟩ := E1 (exprS s.g 1 (p + 2)).2
    exact bd f1 (bd f2 (made 43 1 [] [] [t1, t2] (by simp only [sizes, z1, z2]; omega) hB3 (by omega) (by omega) short_nil short_nil (by simp [i1, i2])))
  · simp only [nn 0 (by omega), nn 1 (by omega), nn 2 (by omega), nn 3 (by omega), yy 4 (by omega), cond_false, cond_true]
    rw [hc] at hB3 ⊢
    replace hB3 : (up (two (exprS s.g 1) (two (exprS s.g 1) (blkS s.g (stmS s.g (1 + s.g p % 2)))) (p + 2))).1 ≤ 900000 := hB3
    show DT _ s (up (two (exprS s.g 1) (two (exprS s.g 1) (blkS s.g (stmS s.g (1 + s.g p % 2)))) (p + 2)))
    simp only [up, two] at hB3 ⊢
    obtain ⟨t1, f1, z1, i1⟩ := E1 (p + 2)
    obtain ⟨t2, f2, z2, i2⟩ := E1 (exprS s.g 1 (p + 2)).2
    obtain ⟨t3, f3, z3, i3⟩ := B (exprS s.g 1 (exprS s.g 1 (p + 2)).2).2
    exact bd f1 (bd f2 (bd f3 (made 43 3 [] [] [t1, t2, t3] (by simp only [sizes, z1, z2, z3]; omega) hB3 (by omega) (by omega) short_nil short_nil (by simp [i1, i2, i3]))))
  · simp only [nn 0 (by omega), nn 1 (by omega), nn 2 (by omega), nn 3 (by omega), nn 4 (by omega), yy 5 (by omega), cond_false, cond_true]
    rw [hc] at hB3 ⊢
    replace hB3 : (up (two (itS (fun q => (1, q + 1)) (s.g (p + 2) % 3)) (fun q => blkS s.g (stmS s.g (1 + s.g p % 2)) (q + 1)) (p + 3))).1 ≤ 900000 := hB3
    show DT _ s (up (two (itS (fun q => (1, q + 1)) (s.g (p + 2) % 3)) (fun q => blkS s.g (stmS s.g (1 + s.g p % 2)) (q + 1)) (p + 3)))
    simp only [up, two] at hB3 ⊢
    have hm3 := Nat.mod_lt (s.g (p + 2)) (show 0 < 3 by omega)
    obtain ⟨us, k1, k2, k3, k4⟩ := loop_draws (s := s) (e := fun q => (1, q + 1)) (b := M.spec_l7Item_l16_b ((1 + s.g p % 2 : Nat) : Int)) (fun p x => rfl) (fun n p ts hn ht => by
      obtain ⟨x, a, e⟩ := word_at h p
      refine ⟨.mk 1 0 x [] [], ?_, rfl, fine_mk (by omega) (by omega) a short_nil (by simp)⟩
      simp only [M.spec_l7Item_l16_b, M.spec_l7Item_l16_C, e, some_bind, List.length_map, List.length_singleton]
      rw [decide_eq_true (by omega), cond_true, ble_ok (by omega), cond_true, ble_ok (by omega), cond_true, wrap_ok (by omega) (by omega), rows_snoc]
      have : ((n + 1 : Nat) : Int) - 1 = n := by omega
      rw [this]
      rfl) (s.g (p + 2) % 3) (p + 3) [] (by simp; omega)
    have k1' : M.spec_l7Item_l16 ((1 + s.g p % 2 : Nat) : Int) (((s.g (p + 2) % 3 : Nat) : Int), (cS s (p + 3)).1, (cS s (p + 3)).2.1, (cS s (p + 3)).2.2, []) = _ := k1
    obtain ⟨t, f, z, i⟩ := B ((itS (fun q => (1, q + 1)) (s.g (p + 2) % 3) (p + 3)).2 + 1)
    refine bd (below_at h (p + 2) 3 (by omega) (by omega)) (bd k1' (bd (pick_at h _ _ rfl) (bd f ?_)))
    simp only [List.nil_append, List.length_map, List.length_singleton, k3]
    rw [ble_ok (by omega), cond_true, ble_ok (by omega), cond_true]
    have e := made (s := s) (q := (blkS s.g (stmS s.g (1 + s.g p % 2)) ((itS (fun q => (1, q + 1)) (s.g (p + 2) % 3) (p + 3)).2 + 1)).2) 44 0 (pkS [[D.str [102]], [D.str [103]], [D.str [109, 97, 120]]] (s.g (itS (fun q => (1, q + 1)) (s.g (p + 2) % 3) (p + 3)).2)) [] (us ++ [t])
      (by rw [sizes_snoc, k2, z]) hB3 (by omega) (by omega) (pkS_short rfl _) short_nil (fine_snoc k4 i)
    rw [rows_snoc] at e
    exact e
  · simp only [nn 0 (by omega), nn 1 (by omega), nn 2 (by omega), nn 3 (by omega), nn 4 (by omega), nn 5 (by omega), yy 6 (by omega), cond_false, cond_true]
    rw [hc] at hB3 ⊢
    replace hB3 : (((1, p + 3) : Nat × Nat)).1 ≤ 900000 := hB3
    show DT _ s (((1, p + 3) : Nat × Nat))
    exact bd (pick_at h _ _ rfl) (leafN 34 _ (by omega) (pkS_short rfl _))
  · simp only [nn 0 (by omega), nn 1 (by omega), nn 2 (by omega), nn 3 (by omega), nn 4 (by omega), nn 5 (by omega), nn 6 (by omega), cond_false, cond_true]
    rw [hc] at hB3 ⊢
    replace hB3 : (up (two (exprS s.g (1 + s.g p % 2)) (blkS s.g (stmS s.g (1 + s.g p % 2))) (p + 2))).1 ≤ 900000 := hB3
    show DT _ s (up (two (exprS s.g (1 + s.g p % 2)) (blkS s.g (stmS s.g (1 + s.g p % 2))) (p + 2)))
    simp only [up, two] at hB3 ⊢
    obtain ⟨t1, f1, z1, i1⟩ := E (p + 2)
    obtain ⟨t2, f2, z2, i2⟩ := B (exprS s.g (1 + s.g p % 2) (p + 2)).2
    exact bd f1 (bd f2 (made 42 3 [] [] [t1, t2] (by simp only [sizes, z1, z2]; omega) hB3 (by omega) (by omega) short_nil short_nil (by simp [i1, i2])))
end
end Go.Proofs.Ytghbceiigeialaa
