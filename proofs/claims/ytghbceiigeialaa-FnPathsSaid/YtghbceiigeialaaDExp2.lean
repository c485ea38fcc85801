import Derived.Test.YtghbceiigeialaaDExp
namespace Go.Proofs.Ytghbceiigeialaa
set_option linter.unusedVariables false
set_option linter.unusedSimpArgs false
open Go Go.Vm
def EX (s : Cu) (k d : Nat) : Prop := ∀ deep : Int, -8 ≤ deep → deep ≤ 5 → deep.toNat = d → ∀ p, DT (M.spec_l7Expr_N k deep (cS s p).1 (cS s p).2.1 (cS s p).2.2) s (exprS s.g d p)
theorem bE_big {d : Nat} (h : d ≤ 5) : bE d ≤ 1300 := by
  have : d = 0 ∨ d = 1 ∨ d = 2 ∨ d = 3 ∨ d = 4 ∨ d = 5 := by omega
  rcases this with rfl | rfl | rfl | rfl | rfl | rfl <;> decide
section
variable {s : Cu} (h : CuOk s)
include h
theorem lv_ok {k d : Nat} (hd : d ≤ 5) (h1 : EX s k (d - 1)) (h2 : EX s k (d - 2)) {deep : Int} (l1 : -6 ≤ deep) (l2 : deep ≤ 5) (l3 : deep.toNat = d) (p : Nat) :
    DT (M.spec_l7Lvalue_N (k + 1) deep (cS s p).1 (cS s p).2.1 (cS s p).2.2) s (lvS s.g (exprS s.g (d - 1)) (exprS s.g (d - 2)) p) := by
  have hm := Nat.mod_lt (s.g p) (show 0 < 4 by omega)
  have b1 := expr_bd s.g (d - 1) (p + 2)
  have b2 := expr_bd s.g (d - 2) (p + 1)
  have c1 := bE_big (show d - 1 ≤ 5 by omega)
  have c2 := bE_big (show d - 2 ≤ 5 by omega)
  rw [M.spec_l7Lvalue_s]
  simp only [M.spec_l7Lvalue_C, lvS]
  rw [show ((4 : Int)) = ((4 : Nat) : Int) from rfl, below_at h p 4 (by omega) (by omega), some_bind, wrap_ok (n := deep - 1) (by omega) (by omega), wrap_ok (n := deep - 2) (by omega) (by omega)]
  obtain ⟨t1, a1, e1⟩ := word_at h (p + 1)
  obtain ⟨u1, f1, z1, i1⟩ := h1 (deep - 1) (by omega) (by omega) (by omega) (p + 2)
  obtain ⟨u2, f2, z2, i2⟩ := h2 (deep - 2) (by omega) (by omega) (by omega) (p + 1)
  have hc : s.g p % 4 = 0 ∨ s.g p % 4 = 1 ∨ s.g p % 4 = 2 ∨ s.g p % 4 = 3 := by omega
  rcases hc with hc | hc | hc | hc
  · rw [hc]; simp only [e1, f1, some_bind]
    exact made 5 0 t1 [] [u1] (by rw [sizes, sizes, z1]) (by omega) (by omega) (by omega) a1 short_nil (fine_one i1)
  · rw [hc]; simp only [f2, some_bind]
    exact made 6 0 [] [] [u2] (by rw [sizes, sizes, z2]) (by omega) (by omega) (by omega) short_nil short_nil (fine_one i2)
  · rw [hc]; simp only [e1, some_bind]; exact leafN 1 t1 (by omega) a1
  · rw [hc]; simp only [e1, some_bind]; exact leafN 1 t1 (by omega) a1
theorem list_ok {k : Nat} {deep : Int} {e : DF} {b : Nat} (hb : Bd b e) (hb2 : b ≤ 2000) (he : ∀ p, DT (M.spec_l7Expr_N k deep (cS s p).1 (cS s p).2.1 (cS s p).2.2) s (e p)) (least most : Nat) (hl : least ≤ most) (hm : most ≤ 5) (p : Nat) :
    DL (M.spec_l7List_N (k + 1) least most deep (cS s p).1 (cS s p).2.1 (cS s p).2.2) s (listS s.g e least (most - least + 1) p) := by
  rw [M.spec_l7List_s]
  simp only [M.spec_l7List_C]
  have hmod := Nat.mod_lt (s.g p) (show 0 < most - least + 1 by omega)
  have e1 : IntKind.i64.wrap (IntKind.i64.wrap ((most : Int) - least) + 1) = ((most - least + 1 : Nat) : Int) := by
    rw [wrap_ok (n := (most : Int) - least) (by omega) (by omega), wrap_ok (by omega) (by omega)]; omega
  rw [e1, below_at h p (most - least + 1) (by omega) (by omega), some_bind]
  have e2 : IntKind.i64.wrap ((least : Int) + ((s.g p % (most - least + 1) : Nat) : Int)) = ((least + s.g p % (most - least + 1) : Nat) : Int) := by
    rw [wrap_ok (by omega) (by omega)]; omega
  simp only [e2]
  obtain ⟨us, k1, k2, k3, k4⟩ := loop_draws (s := s) (e := e) (b := M.spec_l7List_l3_b (M.spec_l7Expr_N k) deep) (fun p x => rfl) (fun n p ts hn ht => by
    obtain ⟨t, f1, z1, i1⟩ := he p
    refine ⟨t, ?_, z1, i1⟩
    simp only [M.spec_l7List_l3_b, M.spec_l7List_l3_C, f1, some_bind, List.length_map, List.length_singleton]
    rw [decide_eq_true (by omega), cond_true, ble_ok (by omega), cond_true, ble_ok (by omega), cond_true, wrap_ok (by omega) (by omega), rows_snoc]
    simp) (least + s.g p % (most - least + 1)) (p + 1) [] (by simp; omega)
  refine ⟨us, ?_, k2, by omega, k4⟩
  have k1' : M.spec_l7List_l3 (M.spec_l7Expr_N k) deep (((least + s.g p % (most - least + 1) : Nat) : Int), (cS s (p + 1)).1, (cS s (p + 1)).2.1, (cS s (p + 1)).2.2, []) = _ := k1
  rw [k1', some_bind]
  rfl
theorem expr_step {d j : Nat} (hd : d + 1 ≤ 5) (H : ∀ i, j ≤ i → EX s i d ∧ EX s i (d - 1) ∧ EX s i (d - 2)) : EX s (j + 2) (d + 1) := by
  intro deep l1 l2 l3 p
  obtain ⟨h0, hq1, hq2⟩ := H j (Nat.le_refl _)
  obtain ⟨h0', _, _⟩ := H (j + 1) (by omega)
  have hm := Nat.mod_lt (s.g (p + 1)) (show 0 < 16 by omega)
  have hm2 := Nat.mod_lt (s.g p) (show 0 < 2 by omega)
  have c0 := bE_big (show d ≤ 5 by omega)
  have c1 := bE_big (show d - 1 ≤ 5 by omega)
  have hB := expr_bd s.g (d + 1) p
  have hB2 := bE_big hd
  have hB3 : (exprS s.g (d + 1) p).1 ≤ 900000 := by omega
  rw [exprS_succ] at hB3 ⊢
  rw [M.spec_l7Expr_s]
  simp only [M.spec_l7Expr_C]
  have w1 : IntKind.i64.wrap (deep - 1) = deep - 1 := wrap_ok (by omega) (by omega)
  have w2 : IntKind.i64.wrap (deep - 2) = deep - 2 := wrap_ok (by omega) (by omega)
  have e2 := below_at h p 2 (by omega) (by omega)
  have e16 := below_at h (p + 1) 16 (by omega) (by omega)
  rw [show ((2 : Nat) : Int) = 2 from rfl] at e2
  rw [show ((16 : Nat) : Int) = 16 from rfl] at e16
  rw [decide_eq_false (by omega), cond_false, e2, some_bind, e16, some_bind]
  simp only [w1, w2]
  have hdd : d + 1 - 1 = d := rfl
  have hd2 : d + 1 - 2 = d - 1 := by omega
  have L0 := fun q => list_ok h (expr_bd s.g d) (by omega) (h0 (deep - 1) (by omega) (by omega) (by omega)) 0 3 (by omega) (by omega) q
  have L1 := fun q => list_ok h (expr_bd s.g (d - 1)) (by omega) (hq1 (deep - 2) (by omega) (by omega) (by omega)) 0 3 (by omega) (by omega) q
  have L2 := fun q => list_ok h (expr_bd s.g d) (by omega) (h0 (deep - 1) (by omega) (by omega) (by omega)) 1 2 (by omega) (by omega) q
  have X0 := h0' (deep - 1) (by omega) (by omega) (by omega)
  have V0 := lv_ok h (show d + 1 ≤ 5 by omega) (k := j) (by rw [hdd]; exact h0) (by rw [hd2]; exact hq1) (deep := deep) (by omega) (by omega) l3
  have V1 := lv_ok h (show d ≤ 5 by omega) (k := j) hq1 hq2 (deep := deep - 1) (by omega) (by omega) (by omega)
  rw [hdd, hd2] at V0
  rcases Nat.lt_or_ge (s.g (p + 1) % 16) 12 with hlt | hbig
  · unfold exprStep at hB3 ⊢
    have hc : s.g (p + 1) % 16 = 0 ∨ s.g (p + 1) % 16 = 1 ∨ s.g (p + 1) % 16 = 2 ∨ s.g (p + 1) % 16 = 3 ∨ s.g (p + 1) % 16 = 4 ∨ s.g (p + 1) % 16 = 5 ∨ s.g (p + 1) % 16 = 6 ∨ s.g (p + 1) % 16 = 7 ∨ s.g (p + 1) % 16 = 8 ∨ s.g (p + 1) % 16 = 9 ∨ s.g (p + 1) % 16 = 10 ∨ s.g (p + 1) % 16 = 11 := by omega
    rcases hc with hc | hc | hc | hc | hc | hc | hc | hc | hc | hc | hc | hc <;> rw [hc] at hB3 ⊢
    · obtain ⟨t, f, z, i⟩ := leaf_ok h (p + 2)
      exact bd f ⟨t, rfl, z, i⟩
    · obtain ⟨t, f, z, i⟩ := V0 (p + 2)
      exact bd f ⟨t, rfl, z, i⟩
    · obtain ⟨t, f, z, i⟩ := X0 (p + 2)
      exact bd f (made 6 0 [] [] [t] (by rw [sizes, sizes, z]) hB3 (by omega) (by omega) short_nil short_nil (fine_one i))
    · obtain ⟨x, a, e⟩ := word_at h (p + 2)
      obtain ⟨ts, f, z, _, i⟩ := L0 (p + 3)
      exact bd e (bd f (made 7 0 x [] ts (by rw [z]) hB3 (by omega) (by omega) a short_nil i))
    · obtain ⟨ts, f, z, _, i⟩ := L1 (p + 3)
      exact bd (pick_at h _ _ rfl) (bd f (made 8 0 _ [] ts (by rw [z]) hB3 (by omega) (by omega) (pkS_short rfl _) short_nil i))
    · obtain ⟨t, f, z, i⟩ := V1 (p + 2)
      exact bd f (made 9 _ [] [] [t] (by rw [sizes, sizes, z]) hB3 (by omega) (by rw [wrap_ok (by omega) (by omega)]; omega) short_nil short_nil (fine_one i))
    · obtain ⟨t, f, z, i⟩ := V1 (p + 2)
      exact bd f (made 10 _ [] [] [t] (by rw [sizes, sizes, z]) hB3 (by omega) (by rw [wrap_ok (by omega) (by omega)]; omega) short_nil short_nil (fine_one i))
    · obtain ⟨t, f, z, i⟩ := X0 (p + 3)
      exact bd (pickI_at h _ _ rfl) (bd f (made 11 _ [] [] [t] (by rw [sizes, sizes, z]) hB3 (by omega) (pkI_small rfl _) short_nil short_nil (fine_one i)))
    · obtain ⟨t, f, z, i⟩ := X0 (p + 3)
      exact bd (pickI_at h _ _ rfl) (bd f (made 11 _ [] [] [t] (by rw [sizes, sizes, z]) hB3 (by omega) (pkI_small rfl _) short_nil short_nil (fine_one i)))
    · obtain ⟨x, a, e⟩ := word_at h (p + 2)
      obtain ⟨ts, f, z, _, i⟩ := L2 (p + 3)
      exact bd e (bd f (made 13 0 x [] ts (by rw [z]) hB3 (by omega) (by omega) a short_nil i))
    · obtain ⟨t1, f1, z1, i1⟩ := X0 (p + 2)
      obtain ⟨t2, f2, z2, i2⟩ := X0 (exprS s.g d (p + 2)).2
      obtain ⟨t3, f3, z3, i3⟩ := X0 (exprS s.g d (exprS s.g d (p + 2)).2).2
      exact bd f1 (bd f2 (bd f3 (made 14 0 [] [] [t1, t2, t3] (by simp only [sizes, z1, z2, z3, itS]) hB3 (by omega) (by omega) short_nil short_nil (by simp [i1, i2, i3]))))
    · obtain ⟨t1, f1, z1, i1⟩ := V1 (p + 3)
      obtain ⟨t2, f2, z2, i2⟩ := X0 (lvS s.g (exprS s.g (d - 1)) (exprS s.g (d - 2)) (p + 3)).2
      exact bd (pickI_at h _ _ rfl) (bd f1 (bd f2 (made 15 _ [] [] [t1, t2] (by simp only [sizes, z1, z2, two]; omega) hB3 (by omega) (pkI_small rfl _) short_nil short_nil (by simp [i1, i2]))))
  · rw [exprStep_big hbig] at hB3 ⊢
    have nn : ∀ n : Int, n < 12 → (((s.g (p + 1) % 16 : Nat) : Int) == n) = false := fun n hn => beq_eq_false_iff_ne.2 (by omega)
    simp only [nn 0 (by omega), nn 1 (by omega), nn 2 (by omega), nn 3 (by omega), nn 4 (by omega), nn 5 (by omega), nn 6 (by omega), nn 7 (by omega), nn 8 (by omega), nn 9 (by omega), nn 10 (by omega), nn 11 (by omega), cond_false]
    obtain ⟨o, o1, o2, e⟩ := binop_at h (p + 2)
    obtain ⟨t1, f1, z1, i1⟩ := X0 (p + 3)
    obtain ⟨t2, f2, z2, i2⟩ := X0 (exprS s.g d (p + 3)).2
    exact bd e (bd f1 (bd f2 (made 12 o [] [] [t1, t2] (by simp only [sizes, z1, z2, itS]) hB3 (by omega) ⟨o1, o2⟩ short_nil short_nil (by simp [i1, i2]))))
theorem expr_all : ∀ (d k : Nat), d ≤ 5 → 2 * d + 1 ≤ k → EX s k d := by
  intro d
  induction d using Nat.strongRecOn with
  | _ d ih =>
    intro k hd hk
    cases d with
    | zero =>
      obtain ⟨k, rfl⟩ : ∃ j, k = j + 1 := ⟨k - 1, by omega⟩
      intro deep l1 l2 l3 p
      rw [M.spec_l7Expr_s, exprS_zero]
      simp only [M.spec_l7Expr_C]
      rw [decide_eq_true (by omega), cond_true]
      obtain ⟨t, f, z, i⟩ := leaf_ok h p
      simp only [f, some_bind]
      exact ⟨t, rfl, z, i⟩
    | succ d =>
      obtain ⟨j, rfl⟩ : ∃ j, k = j + 2 := ⟨k - 2, by omega⟩
      exact expr_step h hd fun i hi => ⟨ih d (by omega) i (by omega) (by omega), ih (d - 1) (by omega) i (by omega) (by omega), ih (d - 2) (by omega) i (by omega) (by omega)⟩
theorem expr_ok {deep : Int} (l1 : -8 ≤ deep) (l2 : deep ≤ 5) (p : Nat) : DT (M.spec_l7Expr deep (cS s p).1 (cS s p).2.1 (cS s p).2.2) s (exprS s.g deep.toNat p) := by
  obtain ⟨t, f, z, i⟩ := expr_all h deep.toNat (2 * deep.toNat + 1) (by omega) (Nat.le_refl _) deep l1 l2 rfl p
  exact ⟨t, M.spec_l7Expr_of f, z, i⟩
theorem exprs_ok {deep : Int} (l1 : -8 ≤ deep) (l2 : deep ≤ 5) (least most : Nat) (hl : least ≤ most) (hm : most ≤ 5) (p : Nat) : DL (M.spec_l7List least most deep (cS s p).1 (cS s p).2.1 (cS s p).2.2) s (listS s.g (exprS s.g deep.toNat) least (most - least + 1) p) := by
  have hb := bE_big (show deep.toNat ≤ 5 by omega)
  obtain ⟨ts, f, z, i⟩ := list_ok h (expr_bd s.g deep.toNat) (by omega) (expr_all h deep.toNat (2 * deep.toNat + 1) (by omega) (Nat.le_refl _) deep l1 l2 rfl) least most hl hm p
  exact ⟨ts, M.spec_l7List_of f, z, i⟩
end
end Go.Proofs.Ytghbceiigeialaa
