import Derived.Test.YtghbceiigeialaaDStm
namespace Go.Proofs.Ytghbceiigeialaa
set_option linter.unusedVariables false
set_option linter.unusedSimpArgs false
open Go Go.Vm
theorem nbeq_of {a b : Nat} (h : a = b) : Nat.beq a b = true := by rw [h]; exact Nat.beq_refl b
theorem fine_snoc {ts : List Tn} {t : Tn} (h : ∀ u, u ∈ ts → FineT u) (ht : FineT t) : ∀ u, u ∈ ts ++ [t] → FineT u := by
  intro u hu
  rcases List.mem_append.1 hu with hu | hu
  · exact h u hu
  · rw [List.mem_singleton.1 hu]; exact ht
theorem sizes_snoc (ts : List Tn) (t : Tn) : sizes (ts ++ [t]) = sizes ts + t.size := by rw [sizes_append]; simp [sizes]
theorem beq_dec (a b : Nat) : (a == b) = Nat.beq a b := by
  by_cases e : a = b
  · rw [nbeq_of e]; exact beq_iff_eq.2 e
  · rw [beq_no e]; exact beq_eq_false_iff_ne.2 e
section
variable {s : Cu} (h : CuOk s)
include h
theorem print_ok {deep : Int} (l1 : -6 ≤ deep) (l2 : deep ≤ 2) (p : Nat) :
    DT ((M.spec_l1Below 2 (cS s (p + 1)).1 (cS s (p + 1)).2.1 (cS s (p + 1)).2.2).bind fun r106 =>
     ((M.spec_l7List r106.fst 3 deep r106.snd.fst r106.snd.snd.fst r106.snd.snd.snd).bind fun r107 =>
      ((M.spec_l1Once 3 r107.snd.fst r107.snd.snd.fst r107.snd.snd.snd).bind fun r108 =>
       (bif r108.fst then
        ((M.spec_l1Pick ([[D.str [62]], [D.str [62, 62]], [D.str [124]]]) r108.snd.fst r108.snd.snd.fst r108.snd.snd.snd).bind fun r109 =>
         ((M.spec_l7Expr (IntKind.i64.wrap (deep - 1)) r109.snd.fst r109.snd.snd.fst r109.snd.snd.snd).bind fun r110 =>
          (bif ((r107.fst.length + [[D.sl true 5 r110.fst]].length) * 24).ble 140737488355328 then
           (bif (r107.fst.length + [[D.sl true 5 r110.fst]].length).ble 140737488355328 then
            ((M.spec_l6Make 21 r106.fst [] r109.fst [] (fzRows (r107.fst ++ [[D.sl true 5 r110.fst]]))).bind fun r111 =>
             (bif [[D.sl true 5 r111]].all pureRow then (some ((r111, r110.snd.fst, r110.snd.snd.fst, r110.snd.snd.snd))) else none)) else none) else none))) else
        ((M.spec_l6Make 21 r106.fst [] [] [] (fzRows r107.fst)).bind fun r112 =>
         (bif [[D.sl true 5 r112]].all pureRow then (some ((r112, r108.snd.fst, r108.snd.snd.fst, r108.snd.snd.snd))) else none)))))) s (printS s.g deep.toNat p) := by
  have hd : deep.toNat ≤ 2 := by omega
  have hB := (simple_bd (expr_bd s.g deep.toNat) (expr_bd s.g (deep.toNat - 1)) (bE_mono deep.toNat).1)
  have b1 := bE_big (show deep.toNat ≤ 5 by omega)
  have b2 := bE_big (show deep.toNat - 1 ≤ 5 by omega)
  have hm := Nat.mod_lt (s.g (p + 1)) (show 0 < 2 by omega)
  have e2 := below_at h (p + 1) 2 (by omega) (by omega)
  obtain ⟨ts, f, z, hl, i⟩ := exprs_ok h (show -8 ≤ deep by omega) (show deep ≤ 5 by omega) (s.g (p + 1) % 2) 3 (by omega) (by omega) (p + 2)
  have hw : 3 - s.g (p + 1) % 2 + 1 = 4 - s.g (p + 1) % 2 := by omega
  rw [hw] at f z
  have zb := list_bd (g := s.g) (expr_bd s.g deep.toNat) (s.g (p + 1) % 2) (4 - s.g (p + 1) % 2) (by omega) (p + 2)
  rw [show s.g (p + 1) % 2 + (4 - s.g (p + 1) % 2) - 1 = 3 by omega] at zb
  refine bd e2 (bd f (bd (once_at h _ 3 (by omega) (by omega)) ?_))
  unfold printS
  rw [beq_dec]
  cases hq : Nat.beq (s.g (listS s.g (exprS s.g deep.toNat) (s.g (p + 1) % 2) (4 - s.g (p + 1) % 2) (p + 2)).2 % 3) 0 with
  | true =>
    simp only [cond_true]
    have hdd : (deep - 1).toNat = deep.toNat - 1 := by omega
    obtain ⟨t, f2, z2, i2⟩ := expr_ok h (deep := deep - 1) (by omega) (by omega) ((listS s.g (exprS s.g deep.toNat) (s.g (p + 1) % 2) (4 - s.g (p + 1) % 2) (p + 2)).2 + 2)
    rw [hdd] at f2 z2
    have zb2 := expr_bd s.g (deep.toNat - 1) ((listS s.g (exprS s.g deep.toNat) (s.g (p + 1) % 2) (4 - s.g (p + 1) % 2) (p + 2)).2 + 2)
    rw [wrap_ok (n := deep - 1) (by omega) (by omega)]
    refine bd (pick_at h _ _ rfl) (bd f2 ?_)
    simp only [List.length_map, List.length_singleton]
    rw [ble_ok (by omega), cond_true, ble_ok (by omega), cond_true]
    have := made (s := s) (q := (exprS s.g (deep.toNat - 1) ((listS s.g (exprS s.g deep.toNat) (s.g (p + 1) % 2) (4 - s.g (p + 1) % 2) (p + 2)).2 + 2)).2) 21 ((s.g (p + 1) % 2 : Nat) : Int) [] (pkS [[D.str [62]], [D.str [62, 62]], [D.str [124]]] (s.g ((listS s.g (exprS s.g deep.toNat) (s.g (p + 1) % 2) (4 - s.g (p + 1) % 2) (p + 2)).2 + 1))) (ts ++ [t]) rfl (by rw [sizes_snoc]; omega) (by omega) (by omega) short_nil (pkS_short rfl _) (fine_snoc i i2)
    rw [rows_snoc] at this
    obtain ⟨t', q1, q2, q3⟩ := this
    refine ⟨t', q1, ?_, q3⟩
    rw [q2, sizes_snoc, z, z2]
    rfl
  | false =>
    simp only [cond_false]
    exact made 21 _ [] [] ts (by rw [z]) (by omega) (by omega) (by omega) short_nil short_nil i
theorem simple_ok {deep : Int} (l1 : 0 ≤ deep) (l2 : deep ≤ 2) (p : Nat) : DT (M.spec_l7Simple deep (cS s p).1 (cS s p).2.1 (cS s p).2.2) s (simpleS s.g deep.toNat p) := by
  have b1 := bE_big (show deep.toNat ≤ 5 by omega)
  have b2 := bE_big (show deep.toNat - 1 ≤ 5 by omega)
  have hB := simple_bd (expr_bd s.g deep.toNat) (expr_bd s.g (deep.toNat - 1)) (bE_mono deep.toNat).1 p
  have hB3 : (simpleS s.g deep.toNat p).1 ≤ 900000 := by omega
  have hm := Nat.mod_lt (s.g p) (show 0 < 9 by omega)
  have hdd : (deep - 1).toNat = deep.toNat - 1 := by omega
  simp only [M.spec_l7Simple, M.spec_l7Simple_C]
  have w1 : IntKind.i64.wrap (deep - 1) = deep - 1 := wrap_ok (by omega) (by omega)
  have hpr := print_ok h (show -6 ≤ deep by omega) l2 p
  rw [w1] at hpr ⊢
  refine bd (below_at h p 9 (by omega) (by omega)) ?_
  rcases Nat.lt_or_ge (s.g p % 9) 6 with hlt | hbig
  · unfold simpleS at hB3 ⊢
    have hc : s.g p % 9 = 0 ∨ s.g p % 9 = 1 ∨ s.g p % 9 = 2 ∨ s.g p % 9 = 3 ∨ s.g p % 9 = 4 ∨ s.g p % 9 = 5 := by omega
    rcases hc with hc | hc | hc | hc | hc | hc <;> rw [hc] at hB3 ⊢
    · exact hpr
    · exact hpr
    · exact bd (pickI_at h _ _ rfl) (leafN _ [] (pkI_small rfl _) short_nil)
    · obtain ⟨ts, f, z, hl, i⟩ := exprs_ok h (show -8 ≤ deep by omega) (show deep ≤ 5 by omega) 0 1 (by omega) (by omega) (p + 2)
      exact bd (pickI_at h _ _ rfl) (bd f (made _ 0 [] [] ts (by rw [z]) hB3 (pkI_small rfl _) (by omega) short_nil short_nil i))
    · obtain ⟨x, a, e⟩ := word_at h (p + 1)
      obtain ⟨ts, f, z, hl, i⟩ := exprs_ok h (deep := deep - 1) (by omega) (by omega) 0 2 (by omega) (by omega) (p + 2)
      rw [hdd] at f z
      exact bd e (bd f (made 27 0 x [] ts (by rw [z]) hB3 (by omega) (by omega) a short_nil i))
    · refine bd (once_at h (p + 1) 2 (by omega) (by omega)) ?_
      rw [beq_dec]
      have hB3' : (bif Nat.beq (s.g (p + 1) % 2) 0 then (1, p + 3) else up (exprS s.g deep.toNat (p + 2)) : Nat × Nat).1 ≤ 900000 := hB3
      show DT _ s (bif Nat.beq (s.g (p + 1) % 2) 0 then (1, p + 3) else up (exprS s.g deep.toNat (p + 2)))
      cases hq : Nat.beq (s.g (p + 1) % 2) 0 with
      | true =>
        exact bd (pick_at h _ _ rfl) (leafN 34 _ (by omega) (pkS_short rfl _))
      | false =>
        rw [hq] at hB3'
        obtain ⟨t, f, z, i⟩ := expr_ok h (show -8 ≤ deep by omega) (show deep ≤ 5 by omega) (p + 2)
        exact bd f (made 20 0 [] [] [t] (by rw [sizes, sizes, z]) hB3' (by omega) (by omega) short_nil short_nil (fine_one i))
  · rw [simpleS_big hbig] at hB3 ⊢
    have nn : ∀ n : Int, n < 6 → (((s.g p % 9 : Nat) : Int) == n) = false := fun n hn => beq_eq_false_iff_ne.2 (by omega)
    simp only [nn 0 (by omega), nn 1 (by omega), nn 2 (by omega), nn 3 (by omega), nn 4 (by omega), nn 5 (by omega), cond_false]
    obtain ⟨t, f, z, i⟩ := expr_ok h (show -8 ≤ deep by omega) (show deep ≤ 5 by omega) (p + 1)
    exact bd f (made 20 0 [] [] [t] (by rw [sizes, sizes, z]) hB3 (by omega) (by omega) short_nil short_nil (fine_one i))
theorem maybe_ok {deep : Int} (l1 : 0 ≤ deep) (l2 : deep ≤ 2) (p : Nat) : DT (M.spec_l7Maybe deep (cS s p).1 (cS s p).2.1 (cS s p).2.2) s (mayS s.g deep.toNat p) := by
  simp only [M.spec_l7Maybe, M.spec_l7Maybe_C]
  refine bd (once_at h p 3 (by omega) (by omega)) ?_
  rw [beq_dec]
  unfold mayS
  cases hq : Nat.beq (s.g p % 3) 0 with
  | true => exact leafN 16 [] (by omega) short_nil
  | false =>
    obtain ⟨t, f, z, i⟩ := expr_ok h (show -8 ≤ deep by omega) (show deep ≤ 5 by omega) (p + 1)
    exact bd f ⟨t, rfl, z, i⟩
def ST (s : Cu) (k d : Nat) : Prop := ∀ deep : Int, 0 ≤ deep → deep.toNat = d → ∀ p, DT (M.spec_l7Stmt_N k deep (cS s p).1 (cS s p).2.1 (cS s p).2.2) s (stmS s.g d p)
end
end Go.Proofs.Ytghbceiigeialaa
