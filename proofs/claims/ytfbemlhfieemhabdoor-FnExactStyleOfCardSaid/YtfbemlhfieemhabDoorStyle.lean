/-
  Remarks on style: both programs say the same; the law in plain Lean.
-/
import Derived.Test.YtfbemlhfieemhabDoorLines
namespace Go.Proofs.YtfbemlhfieemhabDoor
set_option linter.unusedVariables false
set_option linter.unusedSimpArgs false
open Go Go.Vm

abbrev Rk := Int × List UInt8
def encR (l : List Rk) : List Row := l.map fun r => [.int .i64 r.1, .str r.2]
@[simp] theorem encR_length (l : List Rk) : (encR l).length = l.length := by simp [encR]
@[simp] theorem get_encR (l : List Rk) (i : Nat) : (encR l)[i]? = (l[i]?).map fun r => [D.int .i64 r.1, D.str r.2] := by simp [encR]
theorem encR_snoc (l : List Rk) (a : Int) (b : List UInt8) : encR l ++ [[D.int .i64 a, D.str b]] = encR (l ++ [(a, b)]) := by simp [encR]
@[simp] theorem flat_encR (l : List Rk) : flatRows (encR l) = true := by
  simp only [flatRows, encR, List.all_map, List.all_eq_true]
  intro x _
  rfl
@[simp] theorem pure_encR (l : List Rk) : pureRows (encR l) = true := by
  induction l with
  | nil => rfl
  | cons x l ih =>
    simp only [encR, List.map_cons] at ih ⊢
    simp [pureRows, pureRow, D.pure, ih]
def opt (b : Bool) (x : Rk) : List Rk := match b with | true => [x] | false => []
theorem opt_len (b : Bool) (x : Rk) : (opt b x).length ≤ 1 := by cases b <;> simp [opt]
def isB (c : UInt8) : Bool := c == 32 || c == 9
def endsB (s : List UInt8) : Bool := match s.getLast? with | some c => isB c | none => false
theorem u8_eq (c : UInt8) (n : Nat) (h : n < 256) : (((c.toNat : Nat) : Int) == (n : Int)) = (c == UInt8.ofNat n) := by
  rw [Bool.eq_iff_iff, beq_iff_eq, beq_iff_eq]
  constructor
  · intro e
    apply UInt8.toNat_inj.1
    rw [UInt8.toNat_ofNat', Nat.mod_eq_of_lt h]
    omega
  · rintro rfl
    rw [UInt8.toNat_ofNat', Nat.mod_eq_of_lt h]
theorem u8_lt (c : UInt8) : c.toNat < 256 := c.toNat_lt
theorem spec_IsBlank_ok (c : UInt8) : M.spec_IsBlank (IntKind.i64.wrap (c.toNat : Int)) = some (isB c) := by
  have := u8_lt c
  simp only [M.spec_IsBlank, M.spec_IsBlank_C]
  rw [wrap_ok (by omega) (by omega), show ((32 : Int)) = ((32 : Nat) : Int) from rfl, show ((9 : Int)) = ((9 : Nat) : Int) from rfl, u8_eq _ _ (by omega), u8_eq _ _ (by omega), isB]
  cases h : c == UInt8.ofNat 32 <;> simp_all
theorem impl_IsBlank_ok (c : UInt8) : M.impl_IsBlank (IntKind.i64.wrap (c.toNat : Int)) = some (isB c) := spec_IsBlank_ok c
theorem l47End_loop : ∀ (t rest : List UInt8), t.length + rest.length ≤ 1048576 → ∃ b, M.spec_l47End_l2 (t.reverse ++ rest) ((t.length : Nat) : Int) = some (((t.dropWhile isB).length : Int), b)
  | [], rest, h => by
    refine ⟨false, ?_⟩
    rw [M.spec_l47End_l2]
    apply loopM_end
    simp only [M.spec_l47End_l2_b, M.spec_l47End_l2_C]
    rfl
  | c :: t, rest, h => by
    simp only [List.length_cons] at h
    have hget : ((c :: t).reverse ++ rest)[t.length]? = some c := by
      rw [List.reverse_cons, List.append_assoc, List.getElem?_append_right (by simp), List.length_reverse, Nat.sub_self]
      rfl
    have hb : M.spec_l47End_l2_b ((c :: t).reverse ++ rest) (((c :: t).length : Nat) : Int) = some (bif isB c then .inl ((t.length : Nat) : Int) else .inr ((((c :: t).length : Nat) : Int), false)) := by
      simp only [M.spec_l47End_l2_b, M.spec_l47End_l2_C, List.length_cons]
      rw [decide_eq_true (by omega), cond_true, wrap_ok (by omega) (by omega), show ((t.length + 1 : Nat) : Int) - 1 = ((t.length : Nat) : Int) by omega, idx_nat, hget, some_bind, spec_IsBlank_ok, some_bind]
      cases isB c <;> rfl
    cases hc : isB c with
    | true =>
      obtain ⟨b, hh⟩ := l47End_loop t (c :: rest) (by simp only [List.length_cons]; omega)
      refine ⟨b, ?_⟩
      rw [M.spec_l47End_l2] at hh ⊢
      rw [hc, cond_true] at hb
      rw [loopM_next hb, List.dropWhile_cons, hc, if_pos rfl]
      rw [List.reverse_cons, List.append_assoc]
      exact hh
    | false =>
      refine ⟨false, ?_⟩
      rw [hc, cond_false] at hb
      rw [M.spec_l47End_l2, loopM_end hb, List.dropWhile_cons, hc]
      rfl
def trimLen (s : List UInt8) : Nat := (s.reverse.dropWhile isB).length
theorem spec_l47End_ok (s : List UInt8) (h : s.length ≤ 1048576) : M.spec_l47End s = some (trimLen s : Int) := by
  obtain ⟨b, hb⟩ := l47End_loop s.reverse [] (by simpa using h)
  rw [List.reverse_reverse, List.append_nil, List.length_reverse] at hb
  simp only [M.spec_l47End, M.spec_l47End_C]
  rw [hb, some_bind]
  rfl
theorem trimLen_lt (s : List UInt8) : decide ((trimLen s : Int) < (s.length : Int)) = endsB s := by
  unfold trimLen endsB
  rw [← List.head?_reverse]
  have hl : s.length = s.reverse.length := by simp
  rw [hl]
  cases s.reverse with
  | nil => rfl
  | cons c t =>
    simp only [List.head?_cons, List.dropWhile_cons]
    cases hc : isB c with
    | true =>
      have : (t.dropWhile isB).length ≤ t.length := (List.dropWhile_sublist _).length_le
      simp only [if_true]
      rw [decide_eq_true]
      simp only [List.length_cons]
      omega
    | false => simp
def hasB (c : UInt8) (s : List UInt8) : Bool := s.any (· == c)
theorem l47Has_ok (s : List UInt8) (h : s.length ≤ 1048576) : M.spec_l47Has s 9 = some (hasB 9 s) := by
  have hloop := loopM_list (M.spec_l47Has_l2_b s 9) s (fun j (_ : Unit) => (j : Int)) (fun _ c => if c == 9 then (.inr (.inl ()) : Unit ⊕ (Unit ⊕ (Int × Bool))) else .inl ()) (fun _ => .inr ((s.length : Int), false)) (fun _ _ => True)
    (by
      intro i c w hi _
      have hil := (List.getElem?_eq_some_iff.1 hi).1
      simp only [M.spec_l47Has_l2_b, M.spec_l47Has_l2_C, idx_nat, hi, some_bind]
      rw [decide_eq_true (by omega), cond_true, show ((9 : Int)) = ((9 : Nat) : Int) from rfl, u8_eq _ _ (by omega), wrap_ok (by omega) (by omega), show (c == UInt8.ofNat 9) = (c == 9) from rfl]
      cases hc : c == 9 with
      | true =>
        rfl
      | false =>
        rfl)
    (fun _ _ _ _ _ _ _ => trivial)
    (by
      intro w _
      simp only [M.spec_l47Has_l2_b, M.spec_l47Has_l2_C]
      rw [decide_eq_false (by omega), cond_false]) () trivial
  rw [nat0] at hloop
  simp only [M.spec_l47Has, M.spec_l47Has_C, M.spec_l47Has_l2]
  rw [hloop, some_bind]
  have : ∀ l : List UInt8, foldE (fun (_ : Unit) (c : UInt8) => if c == 9 then (.inr (.inl ()) : Unit ⊕ (Unit ⊕ (Int × Bool))) else .inl ()) (fun _ => .inr ((s.length : Int), false)) l () = bif hasB 9 l then .inl () else .inr ((s.length : Int), false) := by
    intro l
    induction l with
    | nil => rfl
    | cons c l ih =>
      rw [foldE, hasB, List.any_cons]
      cases c == 9 with
      | true => rfl
      | false => exact ih
  rw [this]
  cases hasB 9 s <;> rfl
theorem index_has (s : List UInt8) (c : UInt8) : decide (0 ≤ Lib.indexByte s c) = hasB c s := by
  have hge := Lib.indexByte_ge s c
  rw [Bool.eq_iff_iff, decide_eq_true_eq, hasB, List.any_eq_true]
  constructor
  · intro h
    obtain ⟨i, hi⟩ : ∃ i : Nat, Lib.indexByte s c = i := ⟨(Lib.indexByte s c).toNat, by omega⟩
    exact ⟨c, List.mem_of_getElem? (Lib.indexByte_some hi).1, by simp⟩
  · rintro ⟨x, hx, hc⟩
    have := beq_iff_eq.1 hc
    subst this
    rcases Int.lt_or_le (Lib.indexByte s x) 0 with h | h
    · obtain ⟨i, hi⟩ := List.mem_iff_getElem?.1 hx
      exact absurd hi (Lib.indexByte_none (by omega) i)
    · exact h
/-! ### the remarks -/
def sLong : List UInt8 := [108, 111, 110, 103]
def sBlanks : List UInt8 := [98, 108, 97, 110, 107, 115]
def sTab : List UInt8 := [116, 97, 98]
def sEmpty : List UInt8 := [101, 109, 112, 116, 121]
def sEnd : List UInt8 := [101, 110, 100]
def lineRk (w : Int) (i : Nat) (pe : Bool) (s : List UInt8) : List Rk :=
  opt (decide ((s.length : Int) > w)) ((i : Int) + 1, sLong) ++ (opt (endsB s) ((i : Int) + 1, sBlanks) ++ (opt (hasB 9 s) ((i : Int) + 1, sTab) ++ opt (s == [] && pe) ((i : Int) + 1, sEmpty)))
def prevE (l : List (List UInt8)) : Nat → Bool
  | 0 => true
  | i + 1 => (l[i]?.getD []) == []
def acc (w : Int) (l : List (List UInt8)) : Nat → List Rk
  | 0 => []
  | i + 1 => acc w l i ++ lineRk w i (prevE l i) (l[i]?.getD [])
theorem lineRk_len (w : Int) (i : Nat) (pe : Bool) (s : List UInt8) : (lineRk w i pe s).length ≤ 4 := by
  have h1 := opt_len (decide ((s.length : Int) > w)) ((i : Int) + 1, sLong)
  have h2 := opt_len (endsB s) ((i : Int) + 1, sBlanks)
  have h3 := opt_len (hasB 9 s) ((i : Int) + 1, sTab)
  have h4 := opt_len (s == [] && pe) ((i : Int) + 1, sEmpty)
  simp only [lineRk, List.length_append]
  omega
theorem acc_len (w : Int) (l : List (List UInt8)) : ∀ i, (acc w l i).length ≤ 4 * i
  | 0 => by simp [acc]
  | i + 1 => by
    have := acc_len w l i
    have := lineRk_len w i (prevE l i) (l[i]?.getD [])
    simp only [acc, List.length_append]
    omega
theorem mem_len {l : List (List UInt8)} {N : Nat} (h : ∀ s, s ∈ l → s.length ≤ N) {i : Nat} {s : List UInt8} (hi : l[i]? = some s) : s.length ≤ N := h s (List.mem_of_getElem? hi)
set_option maxHeartbeats 2000000 in
theorem spec_style_loop (s0 : List UInt8) (w : Int) (l : List (List UInt8)) (hl : l.length ≤ 1048577) (hs : ∀ s, s ∈ l → s.length ≤ 1048576) :
    M.spec_StyleOf_l4 s0 w (encS l) (0, []) = some ((l.length : Int), false, encR (acc w l l.length)) := by
  have hloop := loopM_run (b := M.spec_StyleOf_l4_b s0 w (encS l)) (t := ((l.length : Int), false, encR (acc w l l.length))) (fun i => ((i : Int), encR (acc w l i))) l.length
    (by
      intro i hi
      obtain ⟨s, hsi⟩ : ∃ s, l[i]? = some s := ⟨l[i], by simp [hi]⟩
      have hsl := mem_len hs hsi
      have hal := acc_len w l i
      have hprev : ∃ p, i ≠ 0 → l[i - 1]? = some p := by
        by_cases h0 : i = 0
        · exact ⟨[], fun h => absurd h0 h⟩
        · exact ⟨l[i - 1]'(by omega), fun _ => by simp⟩
      obtain ⟨p, hp⟩ := hprev
      have hpe : i ≠ 0 → prevE l i = (p == []) := by
        intro h0
        obtain ⟨j, rfl⟩ : ∃ j, i = j + 1 := ⟨i - 1, by omega⟩
        have := hp h0
        rw [Nat.add_sub_cancel] at this
        rw [prevE, this]
        rfl
      simp only [M.spec_StyleOf_l4_b, M.spec_StyleOf_l4_C, encS_length, idx_nat, Int.toNat_natCast, get_encS, hsi, Option.map_some, some_bind, cS0, spec_l47End_ok s hsl, l47Has_ok s hsl, trimLen_lt]
      rw [decide_eq_true (by omega), cond_true, wrap_ok (n := (i : Int) + 1) (by omega) (by omega), acc, hsi, Option.getD_some, lineRk]
      by_cases h0 : i = 0
      · subst h0
        have e : (((0 : Nat) : Int) == 0) = true := rfl
        simp only [e, cond_true, prevE, Bool.and_true]
        cases decide ((s.length : Int) > w) <;> simp only [cond_true, cond_false, opt] <;> cases endsB s <;> simp only [cond_true, cond_false, opt] <;> cases hasB 9 s <;> simp only [cond_true, cond_false, opt] <;> cases s == [] <;> simp only [cond_true, cond_false, opt, Bool.and_true] <;>
          simp (disch := (simp only [List.length_append, encR_length, List.length_cons, List.length_nil]; omega)) only [cond_true, ble_ok, encR_snoc, List.append_assoc, List.append_nil, List.nil_append, List.singleton_append, List.cons_append] <;> rfl
      · have e : (((i : Nat) : Int) == 0) = false := by rw [beq_eq_false_iff_ne]; omega
        have hi1 : (i : Int) - 1 = ((i - 1 : Nat) : Int) := by omega
        simp only [e, cond_false, hi1, wrap_ok (n := ((i - 1 : Nat) : Int)) (by omega) (by omega), idx_nat, Int.toNat_natCast, get_encS, hp h0, Option.map_some, some_bind, cS0, hpe h0]
        cases decide ((s.length : Int) > w) <;> simp only [cond_true, cond_false, opt] <;> cases endsB s <;> simp only [cond_true, cond_false, opt] <;> cases hasB 9 s <;> simp only [cond_true, cond_false, opt] <;> cases s == [] <;> simp only [cond_true, cond_false, opt, Bool.and_true, Bool.true_and, Bool.false_and] <;> (try (cases p == [] <;> simp only [cond_true, cond_false])) <;>
          simp (disch := (simp only [List.length_append, encR_length, List.length_cons, List.length_nil]; omega)) only [cond_true, ble_ok, encR_snoc, List.append_assoc, List.append_nil, List.nil_append, List.singleton_append, List.cons_append] <;> rfl)
    (by
      simp only [M.spec_StyleOf_l4_b, M.spec_StyleOf_l4_C, encS_length]
      rw [decide_eq_false (by omega), cond_false]) 0 (Nat.zero_le _)
  rw [M.spec_StyleOf_l4]
  exact hloop
theorem say_ok (b : Bool) (what : List UInt8) (o : List Rk) (i : Nat) (hi : i ≤ 1048577) (ho : o.length ≤ 100000000) : M.impl_StyleOf_c1 b what (encR o) (i : Int) = some (encR (o ++ opt b ((i : Int) + 1, what)), (i : Int)) := by
  simp only [M.impl_StyleOf_c1, M.impl_StyleOf_c1_C, wrap_ok (n := (i : Int) + 1) (by omega) (by omega)]
  cases b with
  | true =>
    simp (disch := (simp only [List.length_append, encR_length, List.length_cons, List.length_nil]; omega)) only [cond_true, ble_ok, encR_snoc, flat_encR, opt]
  | false => simp only [cond_false, flat_encR, cond_true, opt, List.append_nil]
theorem impl_style_loop (s0 : List UInt8) (w : Int) (l : List (List UInt8)) (hl : l.length ≤ 1048577) (hs : ∀ s, s ∈ l → s.length ≤ 1048576) :
    M.impl_StyleOf_l3 s0 w (l.length : Int) (encS l) (0, []) = some ((l.length : Int), false, encR (acc w l l.length)) := by
  have hloop := loopM_run (b := M.impl_StyleOf_l3_b s0 w (l.length : Int) (encS l)) (t := ((l.length : Int), false, encR (acc w l l.length))) (fun i => ((i : Int), encR (acc w l i))) l.length
    (by
      intro i hi
      obtain ⟨s, hsi⟩ : ∃ s, l[i]? = some s := ⟨l[i], by simp [hi]⟩
      have hsl := mem_len hs hsi
      have hal := acc_len w l i
      have o1 := fun (b : Bool) (x : Rk) => opt_len b x
      have q1 := o1 (decide ((s.length : Int) > w)) ((i : Int) + 1, sLong)
      have q2 := o1 (endsB s) ((i : Int) + 1, sBlanks)
      have q3 := o1 (hasB 9 s) ((i : Int) + 1, sTab)
      have e1 : (acc w l i ++ opt (decide ((s.length : Int) > w)) ((i : Int) + 1, sLong)).length ≤ 10000000 := by rw [List.length_append]; omega
      have e2 : (acc w l i ++ opt (decide ((s.length : Int) > w)) ((i : Int) + 1, sLong) ++ opt (endsB s) ((i : Int) + 1, sBlanks)).length ≤ 10000000 := by rw [List.length_append, List.length_append]; omega
      have e3 : (acc w l i ++ opt (decide ((s.length : Int) > w)) ((i : Int) + 1, sLong) ++ opt (endsB s) ((i : Int) + 1, sBlanks) ++ opt (hasB 9 s) ((i : Int) + 1, sTab)).length ≤ 10000000 := by rw [List.length_append, List.length_append, List.length_append]; omega
      have c1 := say_ok (decide ((s.length : Int) > w)) sLong (acc w l i) i (by omega) (by omega)
      have c2 := say_ok (endsB s) sBlanks _ i (by omega) (Nat.le_trans e1 (by omega))
      have c3 := say_ok (hasB 9 s) sTab _ i (by omega) (Nat.le_trans e2 (by omega))
      have c4 := fun b => say_ok b sEmpty _ i (by omega) (Nat.le_trans e3 (by omega))
      have hcont : M.strings_Contains s [9] = some (hasB 9 s) := by rw [M.strings_Contains, index_has]
      have hk : ∀ b, b = (s == [] && prevE l i) → encR (acc w l i ++ opt (decide ((s.length : Int) > w)) ((i : Int) + 1, sLong) ++ opt (endsB s) ((i : Int) + 1, sBlanks) ++ opt (hasB 9 s) ((i : Int) + 1, sTab) ++ opt b ((i : Int) + 1, sEmpty)) = encR (acc w l (i + 1)) := by
        rintro b rfl
        rw [acc, hsi, Option.getD_some, lineRk]
        simp only [List.append_assoc]
      have hi1 : IntKind.i64.wrap ((i : Int) + 1) = ((i + 1 : Nat) : Int) := by rw [wrap_ok (by omega) (by omega)]; omega
      simp only [M.impl_StyleOf_l3_b, M.impl_StyleOf_l3_C, idx_nat, Int.toNat_natCast, get_encS, hsi, Option.map_some, some_bind, cS0, flat_encR, cond_true]
      rw [decide_eq_true (by omega), cond_true, show ([108, 111, 110, 103] : List UInt8) = sLong from rfl, show ([98, 108, 97, 110, 107, 115] : List UInt8) = sBlanks from rfl, show ([116, 97, 98] : List UInt8) = sTab from rfl, show ([101, 109, 112, 116, 121] : List UInt8) = sEmpty from rfl, c1, some_bind]
      simp only [flat_encR, cond_true]
      by_cases hse : s = []
      · subst hse
        have hb0 : endsB [] = false := rfl
        rw [hb0] at c2
        rw [show (!([] : List UInt8) == []) = false from rfl, cond_false, c2, some_bind, hcont, some_bind]
        simp only [flat_encR, cond_true]
        rw [hb0] at c3
        rw [c3, some_bind, show (([] : List UInt8) == []) = true from rfl, cond_true]
        rw [hb0] at c4 hk
        by_cases h0 : i = 0
        · subst h0
          simp only [flat_encR, cond_true]
          rw [show (((0 : Nat) : Int) == 0) = true from rfl, cond_true, c4, some_bind, hk true rfl, hi1]
        · have e : (((i : Nat) : Int) == 0) = false := by rw [beq_eq_false_iff_ne]; omega
          have him : (i : Int) - 1 = ((i - 1 : Nat) : Int) := by omega
          obtain ⟨p, hp⟩ : ∃ p, l[i - 1]? = some p := ⟨l[i - 1]'(by omega), by simp⟩
          have hpe : prevE l i = (p == []) := by
            obtain ⟨j, rfl⟩ : ∃ j, i = j + 1 := ⟨i - 1, by omega⟩
            rw [Nat.add_sub_cancel] at hp
            rw [prevE, hp]
            rfl
          simp only [e, cond_false, him, wrap_ok (n := ((i - 1 : Nat) : Int)) (by omega) (by omega), idx_nat, Int.toNat_natCast, get_encS, hp, Option.map_some, some_bind, cS0, flat_encR, cond_true]
          rw [c4, some_bind, hk _ (by rw [hpe]; rfl), hi1]
      · obtain ⟨c, hc⟩ : ∃ c, s.getLast? = some c := ⟨_, List.getLast?_eq_some_getLast hse⟩
        have hpos := List.length_pos_iff.2 hse
        have hne : (s == []) = false := by simpa using hse
        have hlast : s[s.length - 1]? = some c := by rw [← List.getLast?_eq_getElem?]; exact hc
        have hbl : endsB s = isB c := by rw [endsB, hc]
        rw [hne, Bool.not_false, cond_true, wrap_ok (n := (s.length : Int) - 1) (by omega) (by omega), show (s.length : Int) - 1 = ((s.length - 1 : Nat) : Int) by omega, idx_nat, hlast, some_bind, impl_IsBlank_ok, some_bind, ← hbl, c2, some_bind, hcont, some_bind]
        simp only [flat_encR, cond_true]
        rw [c3, some_bind, cond_false]
        simp only [flat_encR, cond_true]
        rw [c4, some_bind, hk false (by rw [hne]; rfl), hi1])
    (by
      simp only [M.impl_StyleOf_l3_b, M.impl_StyleOf_l3_C]
      rw [decide_eq_false (by omega), cond_false]) 0 (Nat.zero_le _)
  rw [M.impl_StyleOf_l3]
  exact hloop
theorem splitNl_mem : ∀ (l x : List UInt8), x ∈ splitNl l → x.length ≤ l.length
  | [], x, h => by simp [splitNl] at h; simp [h]
  | c :: l, x, h => by
    rw [splitNl] at h
    split at h
    · rcases List.mem_cons.1 h with rfl | h
      · simp
      · have := splitNl_mem l x h
        simp only [List.length_cons]; omega
    · cases hs : splitNl l with
      | nil => exact absurd hs (splitNl_ne l)
      | cons y t =>
        rw [hs, addHd] at h
        have hy := splitNl_mem l y (by rw [hs]; simp)
        rcases List.mem_cons.1 h with rfl | h
        · simp only [List.singleton_append, List.length_cons]; omega
        · have := splitNl_mem l x (by rw [hs]; simp [h])
          simp only [List.length_cons]; omega
theorem linesOf_mem {s x : List UInt8} (h : x ∈ linesOf s) : x.length ≤ s.length := by
  unfold linesOf at h
  split at h
  · exact splitNl_mem s x ((List.dropLast_sublist _).subset h)
  · exact splitNl_mem s x h
/-- all remarks -/
def style (s : List UInt8) (w : Int) : List Rk := acc w (linesOf s) (linesOf s).length ++ opt (match s.getLast? with | some c => !(c == 10) | none => false) (((linesOf s).length : Int), sEnd)
theorem style_len (s : List UInt8) (w : Int) : (style s w).length ≤ 4 * (s.length + 1) + 1 := by
  have h1 := acc_len w (linesOf s) (linesOf s).length
  have h2 := linesOf_len s
  have h3 := opt_len (match s.getLast? with | some c => !(c == 10) | none => false) (((linesOf s).length : Int), sEnd)
  rw [style, List.length_append]
  omega
theorem spec_StyleOf_ok (s : List UInt8) (w : Int) (h : s.length ≤ 1048576) : M.spec_StyleOf s w = some (encR (style s w)) := by
  have hl := linesOf_len s
  have hal := acc_len w (linesOf s) (linesOf s).length
  simp only [M.spec_StyleOf, M.spec_StyleOf_C, spec_LinesOf_ok s h, some_bind]
  rw [spec_style_loop s w _ (by omega) (fun x hx => Nat.le_trans (linesOf_mem hx) h), some_bind, style, encS_length]
  by_cases hs : s = []
  · subst hs
    rw [decide_eq_false (by simp), cond_false, flat_encR, cond_true]
    simp [opt]
  · obtain ⟨c, hc⟩ : ∃ c, s.getLast? = some c := ⟨_, List.getLast?_eq_some_getLast hs⟩
    have hpos := List.length_pos_iff.2 hs
    have hlast : s[s.length - 1]? = some c := by rw [← List.getLast?_eq_getElem?]; exact hc
    rw [decide_eq_true (by omega), cond_true, wrap_ok (by omega) (by omega), show (s.length : Int) - 1 = ((s.length - 1 : Nat) : Int) by omega, idx_nat, hlast, some_bind, hc, bne, show (10 : Int) = ((10 : Nat) : Int) from rfl, u8_eq _ _ (by omega)]
    have e : (c == UInt8.ofNat 10) = (c == 10) := rfl
    rw [e, show ([101, 110, 100] : List UInt8) = sEnd from rfl]
    cases hcc : c == 10 with
    | true => simp only [Bool.not_true, cond_false, flat_encR, cond_true, opt, List.append_nil, hcc]
    | false =>
      simp (disch := (simp only [List.length_append, encR_length, List.length_cons, List.length_nil]; omega)) only [Bool.not_false, cond_true, ble_ok, encR_snoc, flat_encR, opt, hcc]
theorem hasSuffix_ok (s : List UInt8) (c : UInt8) (h : s.length ≤ 1048576) (hc : s.getLast? = some c) : M.strings_HasSuffix s [10] = some (c == 10) := by
  have hs : s ≠ [] := by rintro rfl; simp at hc
  have hpos := List.length_pos_iff.2 hs
  have hlast : s[s.length - 1]? = some c := by rw [← List.getLast?_eq_getElem?]; exact hc
  simp only [M.strings_HasSuffix, M.strings_HasSuffix_C, M.internal_stringslite_HasSuffix, M.internal_stringslite_HasSuffix_C, List.length_singleton]
  rw [decide_eq_true (by omega), cond_true, wrap_ok (by omega) (by omega), show (s.length : Int) - ((1 : Nat) : Int) = ((s.length - 1 : Nat) : Int) by omega, cut_ok (by omega) (Nat.le_refl _), some_bind, some_bind]
  have : (s.drop (s.length - 1)).take (s.length - (s.length - 1)) = [c] := by
    have hlt : s.length - 1 < s.length := by omega
    rw [List.drop_eq_getElem_cons hlt, show s.length - 1 + 1 = s.length by omega, List.drop_length]
    have h3 := List.getElem?_eq_getElem hlt
    rw [h3] at hlast
    rw [Option.some.inj hlast, show s.length - (s.length - 1) = 1 by omega]
    rfl
  rw [this]
  congr 1
  cases hcc : c == 10 with
  | true => rw [beq_iff_eq.1 hcc]; rfl
  | false =>
    rw [beq_eq_false_iff_ne] at hcc ⊢
    simpa using hcc
theorem impl_StyleOf_ok (s : List UInt8) (w : Int) (h : s.length ≤ 1048576) : M.impl_StyleOf s w = some (encR (style s w)) := by
  have hl := linesOf_len s
  have hal := acc_len w (linesOf s) (linesOf s).length
  simp only [M.impl_StyleOf, M.impl_StyleOf_C, impl_LinesOf_ok s h, some_bind, encS_length]
  rw [impl_style_loop s w _ (by omega) (fun x hx => Nat.le_trans (linesOf_mem hx) h), some_bind, style]
  by_cases hs : s = []
  · subst hs
    rw [show (!([] : List UInt8) == []) = false from rfl, cond_false, flat_encR, cond_true]
    simp [opt]
  · obtain ⟨c, hc⟩ : ∃ c, s.getLast? = some c := ⟨_, List.getLast?_eq_some_getLast hs⟩
    have hne : (s == []) = false := by simpa using hs
    rw [hne, Bool.not_false, cond_true, hasSuffix_ok s c h hc, some_bind, hc, show ([101, 110, 100] : List UInt8) = sEnd from rfl]
    cases hcc : c == 10 with
    | true => simp only [Bool.not_true, cond_false, flat_encR, cond_true, opt, List.append_nil, hcc]
    | false =>
      simp (disch := (simp only [List.length_append, encR_length, List.length_cons, List.length_nil]; omega)) only [Bool.not_false, cond_true, ble_ok, encR_snoc, flat_encR, opt, hcc]
/-! ### marks in texts -/
theorem markText_loop : ∀ (m : Nat) (k : Int) (s : List UInt8), 0 ≤ k → k.toNat ≤ m → s.length + k.toNat ≤ 4000000000000000000 → ∃ k' s' b, M.laws_markText_l4 (k, s) = some (k', s', b) ∧ s'.length ≤ 4000000000000000000
  | m, k, s, h0, h1, hs => by
    by_cases hk : 0 < k
    · cases m with
      | zero => omega
      | succ m =>
        have hd : k.tdiv 10 = k / 10 := Int.tdiv_eq_ediv_of_nonneg h0
        obtain ⟨y, hy⟩ : ∃ y, y = UInt8.ofNat (IntKind.u8.wrap (IntKind.i64.wrap (48 + k.tmod 10))).toNat := ⟨_, rfl⟩
        have hstep : M.laws_markText_l4_b (k, s) = some (.inl (k / 10, [y] ++ s)) := by
          simp only [M.laws_markText_l4_b, M.laws_markText_l4_C]
          rw [← hy, decide_eq_true (show k > 0 from hk), cond_true]
          have : ([y].length + s.length).ble 9223372036854775807 = true := by
            apply Nat.ble_eq_true_of_le
            simp
            omega
          rw [this, cond_true, hd, wrap_ok (by omega) (by omega)]
        obtain ⟨k', s', b, h2, h3⟩ := markText_loop m (k / 10) ([y] ++ s) (by omega) (by omega) (by simp; omega)
        refine ⟨k', s', b, ?_, h3⟩
        rw [M.laws_markText_l4, loopM_next hstep]
        exact h2
    · refine ⟨k, s, false, ?_, by omega⟩
      rw [M.laws_markText_l4]
      apply loopM_end
      simp only [M.laws_markText_l4_b, M.laws_markText_l4_C]
      rw [decide_eq_false (show ¬ k > 0 from hk), cond_false]
theorem markText_ok (k : Int) (h : k ≤ 4000000000000000000) : ∃ s, M.laws_markText k = some s := by
  simp only [M.laws_markText, M.laws_markText_C]
  by_cases hk : k ≤ 0
  · rw [decide_eq_true hk]; exact ⟨_, rfl⟩
  · rw [decide_eq_false hk, cond_false]
    obtain ⟨k', s', b, h2, h3⟩ := markText_loop k.toNat k [] (by omega) (Nat.le_refl _) (by simp; omega)
    rw [h2, some_bind]
    have : (1 + s'.length).ble 9223372036854775807 = true := by
      apply Nat.ble_eq_true_of_le
      omega
    rw [this]
    exact ⟨_, rfl⟩


/-! ### the law -/
noncomputable def mk (k : Int) : List UInt8 := (M.laws_markText k).getD []
theorem mk_ok (k : Int) (h : k ≤ 4000000000000000000) : M.laws_markText k = some (mk k) := by
  obtain ⟨s, hs⟩ := markText_ok k h
  rw [mk, hs]
  rfl
theorem eqRemarkS_same (l : List Rk) (hl : l.length ≤ 1000000000) : M.laws_eqRemarkS (encR l) (encR l) = some true := by
  simp only [M.laws_eqRemarkS, M.laws_eqRemarkS_C, encR_length, bne_self_eq_false, cond_false]
  have hloop := loopM_run (b := M.laws_eqRemarkS_l4_b (encR l) (encR l)) (t := .inr ((l.length : Int), false)) (fun i => (i : Int)) l.length
    (by
      intro i hi
      obtain ⟨x, hx⟩ : ∃ x, l[i]? = some x := ⟨l[i], by simp [hi]⟩
      simp only [M.laws_eqRemarkS_l4_b, M.laws_eqRemarkS_l4_C, M.laws_eqRemark, M.laws_eqRemark_C, encR_length, idx_nat, get_encR, hx, Option.map_some, some_bind]
      rw [decide_eq_true (by omega), cond_true, wrap_ok (by omega) (by omega)]
      have c0 : cInt .i64 [D.int .i64 x.1, D.str x.2] 0 = some x.1 := rfl
      have c1 : cStr [D.int .i64 x.1, D.str x.2] 1 = some x.2 := rfl
      simp only [c0, c1, some_bind, bne_self_eq_false, beq_self_eq_true, Bool.not_true, cond_false]
      simp)
    (by
      simp only [M.laws_eqRemarkS_l4_b, M.laws_eqRemarkS_l4_C, encR_length]
      rw [decide_eq_false (by omega), cond_false]) 0 (Nat.zero_le _)
  rw [nat0] at hloop
  rw [M.laws_eqRemarkS_l4, hloop, some_bind]
  rfl
noncomputable def mR (k : Int) : Nat → List Rk
  | 0 => []
  | n + 1 => (k, mk (k + 1)) :: mR (k + 2) n
theorem mR_len : ∀ (n : Nat) (k : Int), (mR k n).length = n
  | 0, _ => rfl
  | n + 1, k => by rw [mR, List.length_cons, mR_len n]
theorem mR_get : ∀ (n i : Nat) (k : Int), i < n → (mR k n)[i]? = some (k + 2 * i, mk (k + 2 * i + 1))
  | 0, i, k, h => absurd h (Nat.not_lt_zero _)
  | n + 1, 0, k, h => by simp [mR]
  | n + 1, i + 1, k, h => by
    rw [mR, List.getElem?_cons_succ, mR_get n i (k + 2) (by omega)]
    have e : k + 2 + 2 * (i : Int) = k + 2 * ((i + 1 : Nat) : Int) := by omega
    rw [e]
theorem mR_snoc : ∀ (n : Nat) (k : Int), mR k (n + 1) = mR k n ++ [(k + 2 * n, mk (k + 2 * n + 1))]
  | 0, k => by simp [mR]
  | n + 1, k => by
    rw [mR, mR_snoc n (k + 2), mR]
    have e : k + 2 + 2 * (n : Int) = k + 2 * ((n + 1 : Nat) : Int) := by omega
    rw [e]
    rfl
theorem markRemarkS_ok (k : Int) (l : List Rk) (h0 : 0 ≤ k) (h1 : k ≤ 1000000000) (hl : l.length ≤ 1000000000) : M.laws_markRemarkS k (encR l) = some (k + 2 * l.length, encR (mR k l.length)) := by
  simp only [M.laws_markRemarkS, M.laws_markRemarkS_C]
  have hloop := loopM_run (b := M.laws_markRemarkS_l2_b) (t := (k + 2 * l.length, (l.length : Int), false, encR (mR k l.length))) (fun i => (k + 2 * i, (i : Int), encR (mR k i ++ l.drop i))) l.length
    (by
      intro i hi
      obtain ⟨x, hx⟩ : ∃ x, l[i]? = some x := ⟨l[i], by simp [hi]⟩
      have hlen : (mR k i ++ l.drop i).length = l.length := by rw [List.length_append, mR_len, List.length_drop]; omega
      have hget : (mR k i ++ l.drop i)[i]? = some x := by rw [List.getElem?_append_right (by rw [mR_len]; exact Nat.le_refl _), mR_len, Nat.sub_self]; simpa using hx
      have hd : l.drop i = x :: l.drop (i + 1) := by
        rw [List.drop_eq_getElem_cons hi]
        rw [List.getElem?_eq_getElem hi] at hx
        rw [Option.some.inj hx]
      have g1 : ∀ r : Row, ((encR (mR k i ++ l.drop i)).set i r)[i]? = some r := fun r => by simp [hlen, hi]
      simp only [M.laws_markRemarkS_l2_b, M.laws_markRemarkS_l2_C, encR_length, hlen, idx_nat, Int.toNat_natCast, get_encR, hget, Option.map_some, some_bind, g1, List.set_set]
      rw [decide_eq_true (by omega), cond_true, wrap_ok (n := k + 2 * (i : Int) + 1) (by omega) (by omega), mk_ok _ (by omega), some_bind, wrap_ok (n := k + 2 * (i : Int) + 1 + 1) (by omega) (by omega), wrap_ok (n := (i : Int) + 1) (by omega) (by omega)]
      have hs : splice (splice [D.int .i64 x.1, D.str x.2] 0 [D.int .i64 (k + 2 * (i : Int))]) 1 [D.str (mk (k + 2 * (i : Int) + 1))] = [D.int .i64 (k + 2 * (i : Int)), D.str (mk (k + 2 * (i : Int) + 1))] := rfl
      rw [hs]
      have e2 : (encR (mR k i ++ l.drop i)).set i [D.int .i64 (k + 2 * (i : Int)), D.str (mk (k + 2 * (i : Int) + 1))] = encR (mR k (i + 1) ++ l.drop (i + 1)) := by
        rw [mR_snoc, hd]
        have h := List.set_append_right (s := encR (mR k i)) (t := encR (x :: l.drop (i + 1))) i [D.int .i64 (k + 2 * (i : Int)), D.str (mk (k + 2 * (i : Int) + 1))] (by rw [encR_length, mR_len]; exact Nat.le_refl _)
        rw [encR_length, mR_len, Nat.sub_self] at h
        simp only [encR, List.map_append, List.map_cons, List.set_cons_zero, List.map_nil] at h ⊢
        rw [h]
        simp
      rw [e2]
      congr 3
      omega)
    (by
      have hlen : (mR k l.length ++ l.drop l.length).length = l.length := by rw [List.length_append, mR_len, List.length_drop]; omega
      simp only [M.laws_markRemarkS_l2_b, M.laws_markRemarkS_l2_C, encR_length, hlen]
      rw [decide_eq_false (by omega), cond_false]
      simp) 0 (Nat.zero_le _)
  simp only [nat0, Int.mul_zero, Int.add_zero, mR, List.drop_zero, List.nil_append] at hloop
  rw [M.laws_markRemarkS_l2, hloop, some_bind]
theorem heldRemarkS_ok (k : Int) (n : Nat) (h0 : 0 ≤ k) (h1 : k ≤ 1000000000) (hl : n ≤ 1000000000) : M.laws_heldRemarkS (encR (mR k n)) k = some (k + 2 * n) := by
  simp only [M.laws_heldRemarkS, M.laws_heldRemarkS_C]
  have hloop := loopM_run (b := M.laws_heldRemarkS_l2_b (encR (mR k n))) (t := .inr (k + 2 * n, (n : Int), false)) (fun i => (k + 2 * i, (i : Int))) n
    (by
      intro i hi
      simp only [M.laws_heldRemarkS_l2_b, M.laws_heldRemarkS_l2_C, encR_length, mR_len, idx_nat, get_encR, mR_get n i k hi, Option.map_some, some_bind]
      have c0 : cInt .i64 [D.int .i64 (k + 2 * (i : Int)), D.str (mk (k + 2 * (i : Int) + 1))] 0 = some (k + 2 * (i : Int)) := rfl
      have c1 : cStr [D.int .i64 (k + 2 * (i : Int)), D.str (mk (k + 2 * (i : Int) + 1))] 1 = some (mk (k + 2 * (i : Int) + 1)) := rfl
      rw [decide_eq_true (by omega), cond_true, c0, some_bind, bne_self_eq_false, cond_false, c1, some_bind, wrap_ok (n := k + 2 * (i : Int) + 1) (by omega) (by omega), mk_ok _ (by omega), some_bind, wrap_ok (n := k + 2 * (i : Int) + 1 + 1) (by omega) (by omega), wrap_ok (n := (i : Int) + 1) (by omega) (by omega)]
      simp only [beq_self_eq_true, Bool.not_true, cond_false]
      congr 3
      omega)
    (by
      simp only [M.laws_heldRemarkS_l2_b, M.laws_heldRemarkS_l2_C, encR_length, mR_len]
      rw [decide_eq_false (by omega), cond_false]) 0 (Nat.zero_le _)
  simp only [nat0, Int.mul_zero, Int.add_zero] at hloop
  rw [M.laws_heldRemarkS_l2, hloop, some_bind]
  rfl
theorem law_StyleOf (s : List UInt8) (w : Int) : M.laws_FnExactStyleOf s w = some true := by
  simp only [M.laws_FnExactStyleOf, M.laws_FnExactStyleOf_C]
  by_cases h : s.length ≤ 1048576
  · rw [decide_eq_false (by omega), cond_false]
    have hl := style_len s w
    have hm := markRemarkS_ok 1 (style s w) (by omega) (by omega) (by omega)
    have hh := heldRemarkS_ok 1 (style s w).length (by omega) (by omega) (by omega)
    simp only [spec_StyleOf_ok s w h, impl_StyleOf_ok s w h, some_bind, eqRemarkS_same (style s w) (by omega), Bool.not_true, cond_false, hm, hh, bne_self_eq_false]
    rw [decide_eq_false (by omega), cond_false]
    rfl
  · rw [decide_eq_true (by omega)]
    rfl
end Go.Proofs.YtfbemlhfieemhabDoor
