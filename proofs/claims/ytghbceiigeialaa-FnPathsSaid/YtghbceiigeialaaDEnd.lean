import Derived.Test.YtghbceiigeialaaDTab
namespace Go.Proofs.Ytghbceiigeialaa
set_option linter.unusedVariables false
set_option linter.unusedSimpArgs false
open Go Go.Vm
theorem cS_st (s : Cu) (p q : Nat) : cS (s.st p) q = cS s (p + q) := by unfold cS; rw [Cu.st_st]
abbrev LpS := (List Row × Int × Int) ⊕ (Bool × List Row × Int × Int × List Row)
abbrev LpT := List Row × Int × Int × List Row
def isAt (s : Cu) (p : Nat) : LpS → Prop
  | .inl c => c = cS s p
  | .inr (_, c, c1, c2, _) => (c, c1, c2) = cS s p
theorem isAt_st {s : Cu} {p q : Nat} {x : LpS} : isAt (s.st p) q x ↔ isAt s (p + q) x := by
  cases x with
  | inl c => simp only [isAt, cS_st]
  | inr c => simp only [isAt, cS_st]
def DX (m : DR) (s : Cu) (lim : Nat) : Prop := ∃ (t : Tn) (q : Nat), m = some (encNs true (t.flat 0), cS s q) ∧ t.size ≤ lim ∧ FineT t
theorem DX.mono {m : DR} {s : Cu} {a b : Nat} (h : DX m s a) (hab : a ≤ b) : DX m s b := by
  obtain ⟨t, q, h1, h2, h3⟩ := h
  exact ⟨t, q, h1, Nat.le_trans h2 hab, h3⟩
theorem ends_ok {b : LpS → Option (LpS ⊕ LpT)} {f : (Nat → Nat) → DF} {lim L : Nat}
    (hf : ∀ {s : Cu}, CuOk s → ∀ p, ∃ t : Tn, t.size = (f s.g p).1 ∧ FineT t ∧ ∀ x, isAt s p x → b x = (bif decide ((t.size : Int) ≤ (lim : Int)) then some (.inr ((cS s (f s.g p).2).1, (cS s (f s.g p).2).2.1, (cS s (f s.g p).2).2.2, encNs true (t.flat 0)))
      else some (.inl (.inr (false, (cS s (f s.g p).2).1, (cS s (f s.g p).2).2.1, (cS s (f s.g p).2).2.2, encNs true (t.flat 0))))))
    (hbd : ∀ g, Bd L (f g)) (hsm : ∀ j, j ≤ L → (f pureB j).1 ≤ lim) : ∀ s : Cu, CuOk s → ∀ x, isAt s 0 x → ∃ (q : Nat) (t : Tn), loopM b x = some ((cS s q).1, (cS s q).2.1, (cS s q).2.2, encNs true (t.flat 0)) ∧ t.size ≤ lim ∧ FineT t := by
  intro s hs
  refine draws_end f lim L (fun u => u.code.length ≤ 1048576 → ∀ x, isAt u 0 x → ∃ (q : Nat) (t : Tn), loopM b x = some ((cS u q).1, (cS u q).2.1, (cS u q).2.2, encNs true (t.flat 0)) ∧ t.size ≤ lim ∧ FineT t) ?_ hsm s hs.i hs.l
  intro s p hi
  have hb := hbd s.g p
  refine ⟨by omega, by omega, fun hz hl x hx => ?_, fun hP hl x hx => ?_⟩
  · rw [Cu.st_code] at hl
    rw [isAt_st, Nat.add_zero] at hx
    obtain ⟨t, z, i, hbx⟩ := hf ⟨hi, hl⟩ p
    have e := hbx x hx
    rw [decide_eq_true (by omega), cond_true] at e
    refine ⟨(f s.g p).2 - p, t, ?_, by omega, i⟩
    rw [cS_st, show p + ((f s.g p).2 - p) = (f s.g p).2 by omega]
    exact loopM_end e
  · rw [Cu.st_code] at hl
    rw [isAt_st, Nat.add_zero] at hx
    obtain ⟨t, z, i, hbx⟩ := hf ⟨hi, hl⟩ p
    have e := hbx x hx
    by_cases hz : (t.size : Int) ≤ (lim : Int)
    · rw [decide_eq_true hz, cond_true] at e
      refine ⟨(f s.g p).2 - p, t, ?_, by omega, i⟩
      rw [cS_st, show p + ((f s.g p).2 - p) = (f s.g p).2 by omega]
      exact loopM_end e
    · rw [decide_eq_false hz, cond_false] at e
      obtain ⟨q, t', k1, k2, k3⟩ := hP (by rw [Cu.st_code]; exact hl) _ (show isAt (s.st (f s.g p).2) 0 (.inr (false, (cS s (f s.g p).2).1, (cS s (f s.g p).2).2.1, (cS s (f s.g p).2).2.2, encNs true (t.flat 0))) from by rw [isAt_st]; rfl)
      refine ⟨(f s.g p).2 - p + q, t', ?_, k2, k3⟩
      rw [loopM_next e, k1, cS_st, cS_st, show p + ((f s.g p).2 - p + q) = (f s.g p).2 + q by omega]
section
variable {s : Cu} (h : CuOk s)
include h
theorem some_round (p : Nat) : ∃ t : Tn, t.size = (someS s.g p).1 ∧ FineT t ∧ ∀ x, isAt s p x → M.spec_l7Some_l1_b x = (bif decide ((t.size : Int) ≤ ((60 : Nat) : Int)) then some (.inr ((cS s (someS s.g p).2).1, (cS s (someS s.g p).2).2.1, (cS s (someS s.g p).2).2.2, encNs true (t.flat 0)))
      else some (.inl (.inr (false, (cS s (someS s.g p).2).1, (cS s (someS s.g p).2).2.1, (cS s (someS s.g p).2).2.2, encNs true (t.flat 0))))) := by
  have hm := Nat.mod_lt (s.g p) (show 0 < 4 by omega)
  have w1 : IntKind.i64.wrap (1 + ((s.g p % 4 : Nat) : Int)) = ((1 + s.g p % 4 : Nat) : Int) := by rw [wrap_ok (by omega) (by omega)]; omega
  have e4 := below_at h p 4 (by omega) (by omega)
  rw [show ((4 : Nat) : Int) = 4 from rfl] at e4
  obtain ⟨t, f, z, i⟩ := expr_ok h (deep := ((1 + s.g p % 4 : Nat) : Int)) (by omega) (by omega) (p + 1)
  rw [Int.toNat_natCast] at f z
  refine ⟨t, z, i, fun x hx => ?_⟩
  cases x with
  | inl c =>
    simp only [isAt] at hx
    subst hx
    simp only [M.spec_l7Some_l1_b, M.spec_l7Some_l1_C, e4, some_bind, w1, f, encNs_length, t.flat_length]
    cases decide ((t.size : Int) ≤ 60) <;> rfl
  | inr c =>
    obtain ⟨v, c, c1, c2, xx⟩ := c
    simp only [isAt] at hx
    cases hx
    have e4' : M.spec_l1Below 4 (cR (s.st p)) ((s.st p).i : Int) (s.st p).h = _ := e4
    simp only [M.spec_l7Some_l1_b, M.spec_l7Some_l1_C, e4', some_bind, w1, f, encNs_length, t.flat_length]
    cases decide ((t.size : Int) ≤ 60) <;> rfl
theorem prog_round (p : Nat) : ∃ t : Tn, t.size = (progS s.g p).1 ∧ FineT t ∧ ∀ x, isAt s p x → M.spec_l7Program_l1_b x = (bif decide ((t.size : Int) ≤ ((220 : Nat) : Int)) then some (.inr ((cS s (progS s.g p).2).1, (cS s (progS s.g p).2).2.1, (cS s (progS s.g p).2).2.2, encNs true (t.flat 0)))
      else some (.inl (.inr (false, (cS s (progS s.g p).2).1, (cS s (progS s.g p).2).2.1, (cS s (progS s.g p).2).2.2, encNs true (t.flat 0))))) := by
  have hm := Nat.mod_lt (s.g p) (show 0 < 4 by omega)
  have hB := prog_bd (g := s.g) p
  have e4 := below_at h p 4 (by omega) (by omega)
  rw [show ((4 : Nat) : Int) = 4 from rfl] at e4
  obtain ⟨us, k1, k2, k3, k4⟩ := loop_draws (s := s) (e := itemS s.g) (b := M.spec_l7Program_l3_b) (fun p x => rfl) (fun n p ts hn ht => by
    obtain ⟨t, f1, z1, i1⟩ := item_ok h p
    refine ⟨t, ?_, z1, i1⟩
    simp only [M.spec_l7Program_l3_b, M.spec_l7Program_l3_C, f1, some_bind, List.length_map, List.length_singleton]
    rw [decide_eq_true (by omega), cond_true, ble_ok (by omega), cond_true, ble_ok (by omega), cond_true, wrap_ok (by omega) (by omega), rows_snoc]
    simp) (s.g p % 4) (p + 1) [] (by simp; omega)
  have k1' : M.spec_l7Program_l3 (((s.g p % 4 : Nat) : Int), (cS s (p + 1)).1, (cS s (p + 1)).2.1, (cS s (p + 1)).2.2, []) = _ := k1
  have hz : (progS s.g p).1 = sizes us + 1 := by rw [k2]; rfl
  have hmk := make_ok 45 0 [] [] [] us (by omega)
  rw [← fz_rows] at hmk
  refine ⟨.mk 45 0 [] [] us, by rw [Tn.size, hz], fine_mk (by omega) (by omega) short_nil short_nil k4, fun x hx => ?_⟩
  cases x with
  | inl c =>
    simp only [isAt] at hx
    subst hx
    simp only [M.spec_l7Program_l1_b, M.spec_l7Program_l1_C, e4, some_bind, k1', List.nil_append, hmk, pure_oneN, cond_true, encNs_length, Tn.flat_length]
    cases decide (((Tn.mk 45 0 [] [] us).size : Int) ≤ 220) <;> rfl
  | inr c =>
    obtain ⟨v, c, c1, c2, xx⟩ := c
    simp only [isAt] at hx
    cases hx
    have e4' : M.spec_l1Below 4 (cR (s.st p)) ((s.st p).i : Int) (s.st p).h = _ := e4
    simp only [M.spec_l7Program_l1_b, M.spec_l7Program_l1_C, e4', some_bind, k1', List.nil_append, hmk, pure_oneN, cond_true, encNs_length, Tn.flat_length]
    cases decide (((Tn.mk 45 0 [] [] us).size : Int) ≤ 220) <;> rfl
theorem some_ok (p : Nat) : DX (M.spec_l7Some (cS s p).1 (cS s p).2.1 (cS s p).2.2) s 60 := by
  obtain ⟨q, t, k1, k2, k3⟩ := ends_ok (b := M.spec_l7Some_l1_b) (f := someS) (lim := 60) (L := 404) (fun h p => some_round h p) (fun g => some_bd) some_small (s.st p) (h.st p) (.inl (cS s p)) (by show cS s p = cS (s.st p) 0; rw [cS_st]; rfl)
  have k1' : M.spec_l7Some_l1 (.inl ((cS s p).1, (cS s p).2.1, (cS s p).2.2)) = _ := k1
  rw [cS_st] at k1'
  refine ⟨t, p + q, ?_, k2, k3⟩
  simp only [M.spec_l7Some, M.spec_l7Some_C]
  rw [k1', some_bind]
theorem program_ok (p : Nat) : DX (M.spec_l7Program (cS s p).1 (cS s p).2.1 (cS s p).2.2) s 220 := by
  obtain ⟨q, t, k1, k2, k3⟩ := ends_ok (b := M.spec_l7Program_l1_b) (f := progS) (lim := 220) (L := 2857) (fun h p => prog_round h p) (fun g => prog_bd) prog_small (s.st p) (h.st p) (.inl (cS s p)) (by show cS s p = cS (s.st p) 0; rw [cS_st]; rfl)
  have k1' : M.spec_l7Program_l1 (.inl ((cS s p).1, (cS s p).2.1, (cS s p).2.2)) = _ := k1
  rw [cS_st] at k1'
  refine ⟨t, p + q, ?_, k2, k3⟩
  simp only [M.spec_l7Program, M.spec_l7Program_C]
  rw [k1', some_bind]
theorem any_ok (p : Nat) : DX (M.spec_l7Any (cS s p).1 (cS s p).2.1 (cS s p).2.2) s 500 := by
  have hm := Nat.mod_lt (s.g p) (show 0 < 5 by omega)
  have e5 := below_at h p 5 (by omega) (by omega)
  rw [show ((5 : Nat) : Int) = 5 from rfl] at e5
  simp only [M.spec_l7Any, M.spec_l7Any_C]
  rw [e5, some_bind]
  obtain ⟨t1, q1, f1, z1, i1⟩ := some_ok h (p + 1)
  obtain ⟨t2, f2, z2, i2⟩ := stmt_ok h (deep := 2) (by omega) (by omega) (p + 1)
  have b2 := stm_bd2 (g := s.g) (p + 1)
  rw [show (2 : Int).toNat = 2 from rfl] at f2 z2
  obtain ⟨t3, q3, f3, z3, i3⟩ := program_ok h (p + 1)
  simp only [f1, f2, f3, some_bind]
  cases ((s.g p % 5 : Nat) : Int) == 0 with
  | true => exact ⟨t1, q1, rfl, by omega, i1⟩
  | false => cases ((s.g p % 5 : Nat) : Int) == 1 with
    | true => exact ⟨t1, q1, rfl, by omega, i1⟩
    | false => cases ((s.g p % 5 : Nat) : Int) == 2 with
      | true => exact ⟨t2, _, rfl, by omega, i2⟩
      | false => exact ⟨t3, q3, rfl, by omega, i3⟩
end
end Go.Proofs.Ytghbceiigeialaa
