import Derived.Lib.IndexLaws
import Derived.Test.YtpcdaeebbpedoaaGreatDoorZNames
namespace Go.Proofs.YtpcdaeebbpedoaaGreatDoor
set_option linter.unusedVariables false
set_option linter.unusedSimpArgs false
set_option linter.unusedSectionVars false
open Go Go.Vm
theorem u8_eq (c : UInt8) (n : Nat) (h : n < 256) : (((c.toNat : Nat) : Int) == (n : Int)) = (c == UInt8.ofNat n) := by
  rw [Bool.eq_iff_iff, beq_iff_eq, beq_iff_eq]
  constructor
  · intro e
    apply UInt8.toNat_inj.1
    rw [UInt8.toNat_ofNat', Nat.mod_eq_of_lt h]
    omega
  · rintro rfl
    rw [UInt8.toNat_ofNat', Nat.mod_eq_of_lt h]
def hasB (c : UInt8) (s : List UInt8) : Bool := s.any (· == c)
theorem index_has (s : List UInt8) (c : UInt8) : decide (0 ≤ Lib.indexByte s c) = hasB c s := by
  have hge := Lib.indexByte_ge s c
  rw [Bool.eq_iff_iff, decide_eq_true_eq, hasB, List.any_eq_true]
  constructor
  · intro h
    obtain ⟨i, hi⟩ : ∃ i : Nat, Lib.indexByte s c = i := ⟨(Lib.indexByte s c).toNat, by omega⟩
    exact ⟨c, List.mem_of_getElem? (Lib.indexByte_some hi).1, by simp⟩
  · rintro ⟨x, hx, hc⟩
    have := beq_iff_eq.1 hc
    subst this
    rcases Int.lt_or_le (Lib.indexByte s x) 0 with h | h
    · obtain ⟨i, hi⟩ := List.mem_iff_getElem?.1 hx
      exact absurd hi (Lib.indexByte_none (by omega) i)
    · exact h
theorem plain_ok (s : List UInt8) (h : s.length ≤ 1000000000) : M.spec_l4Plain s = some (!(hasB 10 s)) := by
  have key : ∀ (t : List UInt8) (i : Nat), s.drop i = t → i ≤ s.length → loopM (M.spec_l4Plain_l2_b s) (i : Int) = some (bif hasB 10 t then .inl () else .inr (s.length : Int)) := by
    intro t
    induction t with
    | nil =>
      intro i hd hi
      have : i = s.length := by
        have := congrArg List.length hd
        simp at this
        omega
      subst this
      refine loopM_end ?_
      simp only [M.spec_l4Plain_l2_b, M.spec_l4Plain_l2_C]
      rw [decide_eq_false (by omega), cond_false]
      rfl
    | cons x t ih =>
      intro i hd hi
      have hx : s[i]? = some x := by
        have : (s.drop i)[0]? = some x := by rw [hd]; rfl
        simpa using this
      have hlt : i < s.length := (List.getElem?_eq_some_iff.1 hx).1
      have hd' : s.drop (i + 1) = t := by
        rw [← List.drop_drop, hd]
        rfl
      have hs : M.spec_l4Plain_l2_b s (i : Int) = some (bif x == 10 then .inr (.inl ()) else .inl ((i : Int) + 1)) := by
        simp only [M.spec_l4Plain_l2_b, M.spec_l4Plain_l2_C, idx_nat, hx, some_bind]
        rw [decide_eq_true (by omega), cond_true, show (10 : Int) = ((10 : Nat) : Int) from rfl, u8_eq _ _ (by omega), wrap_ok (by omega) (by omega), show (x == UInt8.ofNat 10) = (x == 10) from rfl]
        cases x == 10 <;> rfl
      rw [hasB, List.any_cons]
      cases hc : x == 10 with
      | true =>
        rw [hc, cond_true] at hs
        rw [loopM_end hs]
        rfl
      | false =>
        rw [hc, cond_false] at hs
        rw [loopM_next hs, show (i : Int) + 1 = ((i + 1 : Nat) : Int) by omega, ih (i + 1) hd' hlt, Bool.false_or]
        rfl
  have := key s 0 rfl (Nat.zero_le _)
  rw [nat0] at this
  simp only [M.spec_l4Plain, M.spec_l4Plain_C, M.spec_l4Plain_l2]
  rw [this, some_bind]
  cases hasB 10 s <;> rfl
theorem kw_cell : ∀ i, i < 17 → cStr keywordsRow i = kwds[i]? := by decide +kernel
theorem sg_cell : ∀ i, i < 39 → cStr signsRow i = sgns[i]? := by decide +kernel
def spell (k : Int) : List UInt8 := if k = 1 then [10] else if 10 ≤ k ∧ k ≤ 26 then kwds[(k - 10).toNat]?.getD [] else if 30 ≤ k ∧ k ≤ 68 then sgns[(k - 30).toNat]?.getD [] else []
theorem SpellOf_ok (k : Int) (hk : I64 k) : M.spec_SpellOf k = some (spell k) ∧ M.impl_SpellOf k = some (spell k) := by
  have l1 : kwds.length = 17 := rfl
  have l2 : sgns.length = 39 := rfl
  simp only [M.spec_SpellOf, M.spec_SpellOf_C, M.impl_SpellOf, M.impl_SpellOf_C, M.impl_isKeywordKind, M.impl_isKeywordKind_C, M.impl_isSignKind, M.impl_isSignKind_C, M.impl_within, M.impl_within_C, M.spec_l1In, M.spec_l1In_C, words_ok, signs_ok, some_bind, spell]
  by_cases h1 : k = 1
  · subst h1
    exact ⟨rfl, rfl⟩
  · rw [show (k == 1) = false by simpa using h1, cond_false, cond_false, if_neg h1]
    by_cases h2 : 10 ≤ k ∧ k ≤ 26
    · obtain ⟨i, hi⟩ : ∃ i : Nat, k = 10 + i := ⟨(k - 10).toNat, by omega⟩
      have hw : IntKind.i64.wrap (k - 10) = (i : Int) := by rw [wrap_ok (by omega) (by omega)]; omega
      obtain ⟨x, hx⟩ : ∃ x, kwds[i]? = some x := ⟨kwds[i]'(by omega), by simp⟩
      rw [if_pos h2, decide_eq_true (show k ≥ 10 by omega), cond_true, decide_eq_true (show k ≤ 26 by omega), hw, decide_eq_true (show (0 : Int) ≤ (i : Int) by omega), decide_eq_true (show (i : Int) < 17 by omega)]
      simp only [some_bind, cond_true, idx_nat, Int.toNat_natCast, get_encS, hx, Option.map_some, cS0, Bool.and_self, Nat.zero_add, Nat.mul_one, kw_cell i (by omega)]
      rw [show (k - 10).toNat = i by omega, hx]
      exact ⟨rfl, rfl⟩
    · have hf : (bif decide (k ≥ 10) then some (decide (k ≤ 26)) else some false) = some false := by
        by_cases h3 : k ≥ 10
        · rw [decide_eq_true h3, cond_true, decide_eq_false (by omega)]
        · rw [decide_eq_false h3, cond_false]
      rw [if_neg h2, hf]
      simp only [some_bind, cond_false]
      by_cases h4 : 30 ≤ k ∧ k ≤ 68
      · obtain ⟨i, hi⟩ : ∃ i : Nat, k = 30 + i := ⟨(k - 30).toNat, by omega⟩
        have hw : IntKind.i64.wrap (k - 30) = (i : Int) := by rw [wrap_ok (by omega) (by omega)]; omega
        obtain ⟨x, hx⟩ : ∃ x, sgns[i]? = some x := ⟨sgns[i]'(by omega), by simp⟩
        rw [if_pos h4, decide_eq_true (show k ≥ 30 by omega), cond_true, decide_eq_true (show k ≤ 68 by omega), hw, decide_eq_true (show (0 : Int) ≤ (i : Int) by omega), decide_eq_true (show (i : Int) < 39 by omega)]
        simp only [some_bind, cond_true, idx_nat, Int.toNat_natCast, get_encS, hx, Option.map_some, cS0, Bool.and_self, Nat.zero_add, Nat.mul_one, sg_cell i (by omega)]
        rw [show (k - 30).toNat = i by omega, hx]
        exact ⟨rfl, rfl⟩
      · have hf : (bif decide (k ≥ 30) then some (decide (k ≤ 68)) else some false) = some false := by
          by_cases h3 : k ≥ 30
          · rw [decide_eq_true h3, cond_true, decide_eq_false (by omega)]
          · rw [decide_eq_false h3, cond_false]
        rw [if_neg h4, hf]
        exact ⟨rfl, rfl⟩
def tokenOk (k : Int) (s : List UInt8) : Bool := bif s == [] then false else
  bif k == 2 then (bAt s 0 == 35) && !(hasB 10 s) else bif k == 3 then numEnd s 0 == (s.length : Int) else bif k == 4 then quoted s 0 34 == (s.length : Int) else bif k == 5 then ereEnd s 0 == (s.length : Int) else
  bif k == 6 then nameOk s else bif k == 7 then nameOk s else bif k == 8 then isBlt s else s == spell k
theorem TokenOk_ok (k : Int) (s : List UInt8) (a : Int) (h : s.length ≤ 1048576) (hk : I64 k) : M.spec_TokenOk k s a = some (tokenOk k s) ∧ M.impl_TokenOk k s a = some (tokenOk k s) := by
  have hn := NameOk_ok s h
  have hb := IsBuiltin_ok s
  have hst := StrEnd_ok h 0 (by omega) (by omega)
  have her := EreEnd_ok h 0 (by omega) (by omega)
  have hsp := SpellOf_ok k hk
  have hct : M.strings_Contains s [10] = some (hasB 10 s) := by rw [M.strings_Contains, index_has]
  simp only [M.spec_TokenOk, M.spec_TokenOk_C, M.impl_TokenOk, M.impl_TokenOk_C, hn.1, hn.2, hb.1, hb.2, hst.1, hst.2, her.1, her.2, hsp.1, hsp.2, hct, plain_ok s (by omega), spec_NumEnd_ok h 0 (by omega), impl_NumEnd_ok h 0 (by omega), some_bind, tokenOk]
  cases s with
  | nil =>
    refine ⟨?_, rfl⟩
    have q1 : nameOk [] = false := rfl
    have q2 : isBlt [] = false := rfl
    have q3 : (quoted [] 0 34 == (([] : List UInt8).length : Int)) = false := rfl
    have q4 : (ereEnd [] 0 == (([] : List UInt8).length : Int)) = false := rfl
    rw [q1, q2, q3, q4]
    cases k == 2 <;> cases k == 3 <;> cases k == 4 <;> cases k == 5 <;> cases k == 6 <;> cases k == 7 <;> cases k == 8 <;> rfl
  | cons c l =>
    have hi : idx (c :: l) 0 = some c := rfl
    have hb0 : bAt (c :: l) 0 = (c.toNat : Int) := rfl
    have hne : ((c :: l : List UInt8) == []) = false := rfl
    have hgt : decide (((c :: l).length : Int) > 0) = true := by simp
    have hsw : (spell k == c :: l) = (c :: l == spell k) := by rw [Bool.eq_iff_iff, beq_iff_eq, beq_iff_eq]; exact ⟨Eq.symm, Eq.symm⟩
    rw [hi, hb0, hne, hgt, hsw]
    simp only [some_bind, cond_true, cond_false, Bool.not_false]
    cases k == 2 <;> cases k == 3 <;> cases k == 4 <;> cases k == 5 <;> cases k == 6 <;> cases k == 7 <;> cases k == 8 <;> cases (c.toNat : Int) == 35 <;> exact ⟨rfl, rfl⟩
end Go.Proofs.YtpcdaeebbpedoaaGreatDoor
