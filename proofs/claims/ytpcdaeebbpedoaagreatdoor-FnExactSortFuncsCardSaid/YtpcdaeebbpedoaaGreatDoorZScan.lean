import Derived.Test.YtpcdaeebbpedoaaGreatDoorPForms2
import Derived.Test.YtpcdaeebbpedoaaGreatDoorVm4
namespace Go.Proofs.YtpcdaeebbpedoaaGreatDoor
set_option linter.unusedVariables false
set_option linter.unusedSimpArgs false
set_option linter.unusedSectionVars false
open Go Go.Vm
theorem ble_ok {m n : Nat} (h : m ≤ n) : m.ble n = true := Nat.ble_eq_true_of_le h
theorem some_bind {α β : Type} (a : α) (f : α → Option β) : (some a).bind f = f a := rfl
theorem nat0 : ((0 : Nat) : Int) = 0 := rfl
def bAt (s : List UInt8) (a : Int) : Int := if 0 ≤ a then (match s[a.toNat]? with | some c => (c.toNat : Int) | none => -1) else -1
def isD (b : Int) : Bool := decide (b ≥ 48) && decide (b ≤ 57)
def dEnd (s : List UInt8) (a : Int) : Int := if 0 ≤ a then a + (((s.drop a.toNat).takeWhile fun c => isD (c.toNat : Int)).length : Nat) else a
theorem u8_lt (c : UInt8) : c.toNat < 256 := c.toNat_lt
theorem bAt_nat (s : List UInt8) (i : Nat) : bAt s (i : Int) = (match s[i]? with | some c => (c.toNat : Int) | none => -1) := by
  rw [bAt, if_pos (by omega), Int.toNat_natCast]
section
variable {s : List UInt8} (h : s.length ≤ 1048576)
include h
theorem spec_l4Byte_ok (a : Int) : M.spec_l4Byte s a = some (bAt s a) := by
  simp only [M.spec_l4Byte, M.spec_l4Byte_C]
  by_cases h0 : a < 0
  · rw [decide_eq_true h0, cond_true, bAt, if_neg (by omega)]
  · rw [decide_eq_false h0, cond_false]
    obtain ⟨i, rfl⟩ : ∃ i : Nat, a = i := ⟨a.toNat, by omega⟩
    rw [bAt_nat]
    by_cases h1 : (i : Int) ≥ (s.length : Int)
    · rw [decide_eq_true h1, cond_true, List.getElem?_eq_none (by omega)]
    · obtain ⟨c, hc⟩ : ∃ c, s[i]? = some c := ⟨s[i]'(by omega), by simp⟩
      have := u8_lt c
      rw [decide_eq_false h1, cond_false, idx_nat, hc, some_bind, wrap_ok (by omega) (by omega)]
theorem impl_byteAt_ok (a : Int) : M.impl_byteAt s a = some (bAt s a) := by
  simp only [M.impl_byteAt, M.impl_byteAt_C, M.impl_within, M.impl_within_C]
  rw [wrap_ok (by omega) (by omega)]
  by_cases h0 : a < 0
  · rw [decide_eq_false (by omega), cond_false, some_bind, Bool.not_false, cond_true, bAt, if_neg (by omega)]
  · rw [decide_eq_true (by omega), cond_true, some_bind]
    obtain ⟨i, rfl⟩ : ∃ i : Nat, a = i := ⟨a.toNat, by omega⟩
    rw [bAt_nat]
    by_cases h1 : (i : Int) ≥ (s.length : Int)
    · rw [decide_eq_false (by omega), Bool.not_false, cond_true, List.getElem?_eq_none (by omega)]
    · obtain ⟨c, hc⟩ : ∃ c, s[i]? = some c := ⟨s[i]'(by omega), by simp⟩
      have := u8_lt c
      rw [decide_eq_true (by omega), Bool.not_true, cond_false, idx_nat, hc, some_bind, wrap_ok (by omega) (by omega)]
end
theorem isD_spec (b : Int) : M.spec_IsDigit b = some (isD b) := by
  simp only [M.spec_IsDigit, M.spec_IsDigit_C, M.spec_l1In, M.spec_l1In_C, isD]
  cases decide (b ≥ 48) <;> rfl
theorem isD_impl (b : Int) : M.impl_IsDigit b = some (isD b) := by
  simp only [M.impl_IsDigit, M.impl_IsDigit_C, isD]
  cases decide (b ≥ 48) <;> rfl
theorem dloop {s : List UInt8} {b : Int → Option (Int ⊕ Int)} (hb : ∀ a, 0 ≤ a → a ≤ 2000000 → b a = some (bif isD (bAt s a) then .inl (a + 1) else .inr a)) (h : s.length ≤ 1048576) :
    ∀ (rest pre : List UInt8), s = pre ++ rest → loopM b (pre.length : Int) = some ((pre.length : Int) + ((rest.takeWhile fun c => isD (c.toNat : Int)).length : Nat))
  | [], pre, e => by
    have hl : pre.length = s.length := by rw [e]; simp
    refine loopM_end ?_
    rw [hb _ (by omega) (by omega), bAt_nat, List.getElem?_eq_none (by omega)]
    simp [isD]
  | c :: rest, pre, e => by
    have hl : s.length = pre.length + (rest.length + 1) := by rw [e]; simp
    have hget : s[pre.length]? = some c := by rw [e, List.getElem?_append_right (Nat.le_refl _), Nat.sub_self]; rfl
    have hs := hb (pre.length : Int) (by omega) (by omega)
    rw [bAt_nat, hget] at hs
    simp only at hs
    cases hd : isD (c.toNat : Int) with
    | true =>
      have := dloop hb h rest (pre ++ [c]) (by rw [e]; simp)
      rw [List.length_append, List.length_singleton] at this
      rw [hd, cond_true] at hs
      rw [loopM_next hs, List.takeWhile_cons, if_pos hd, show (pre.length : Int) + 1 = ((pre.length + 1 : Nat) : Int) by omega, this]
      simp
      omega
    | false =>
      rw [hd, cond_false] at hs
      rw [loopM_end hs, List.takeWhile_cons, hd]
      simp
theorem dloop' {s : List UInt8} {b : Int → Option (Int ⊕ Int)} (hb : ∀ a, 0 ≤ a → a ≤ 2000000 → b a = some (bif isD (bAt s a) then .inl (a + 1) else .inr a)) (h : s.length ≤ 1048576) (a : Int) (h0 : 0 ≤ a) (h1 : a ≤ 2000000) : loopM b a = some (dEnd s a) := by
  obtain ⟨i, rfl⟩ : ∃ i : Nat, a = i := ⟨a.toNat, by omega⟩
  rw [dEnd, if_pos h0, Int.toNat_natCast]
  by_cases hi : i ≤ s.length
  · have := dloop hb h (s.drop i) (s.take i) (List.take_append_drop i s).symm
    rw [List.length_take, Nat.min_eq_left hi] at this
    exact this
  · rw [List.drop_eq_nil_of_le (by omega)]
    refine loopM_end ?_
    rw [hb _ h0 h1, bAt_nat, List.getElem?_eq_none (by omega)]
    simp [isD]
theorem dEnd_range {s : List UInt8} (h : s.length ≤ 1048576) {a : Int} (h0 : 0 ≤ a) : a ≤ dEnd s a ∧ (dEnd s a ≤ a ∨ dEnd s a ≤ s.length) := by
  have h1 := (List.takeWhile_sublist (p := fun c : UInt8 => isD (c.toNat : Int)) (l := s.drop a.toNat)).length_le
  rw [List.length_drop] at h1
  rw [dEnd, if_pos h0]
  omega
section
variable {s : List UInt8} (h : s.length ≤ 1048576)
include h
theorem spec_l4Digits_ok (a : Int) (h0 : 0 ≤ a) (h1 : a ≤ 2000000) : M.spec_l4Digits s a = some (dEnd s a) := by
  simp only [M.spec_l4Digits, M.spec_l4Digits_C, M.spec_l4Digits_l1]
  rw [dloop' (fun a h0 h1 => by
    simp only [M.spec_l4Digits_l1_b, M.spec_l4Digits_l1_C, spec_l4Byte_ok h, isD_spec, some_bind]
    rw [wrap_ok (by omega) (by omega)]
    cases isD (bAt s a) <;> rfl) h a h0 h1, some_bind]
theorem impl_digitsEnd_ok (a : Int) (h0 : 0 ≤ a) (h1 : a ≤ 2000000) : M.impl_digitsEnd s a = some (dEnd s a) := by
  simp only [M.impl_digitsEnd, M.impl_digitsEnd_C, M.impl_digitsEnd_l1]
  rw [dloop' (fun a h0 h1 => by
    simp only [M.impl_digitsEnd_l1_b, M.impl_digitsEnd_l1_C, impl_byteAt_ok h, isD_impl, some_bind]
    rw [wrap_ok (by omega) (by omega)]
    cases isD (bAt s a) <;> rfl) h a h0 h1, some_bind]
end
def expEnd (s : List UInt8) (r : Int) : Int := bif (bAt s r == 101) || (bAt s r == 69) then
    (bif (bAt s (r + 1) == 43) || (bAt s (r + 1) == 45) then (bif decide (dEnd s (r + 1 + 1) > r + 1 + 1) then dEnd s (r + 1 + 1) else r) else (bif decide (dEnd s (r + 1) > r + 1) then dEnd s (r + 1) else r)) else r
def numEnd (s : List UInt8) (a : Int) : Int := if a < 0 ∨ (s.length : Int) ≤ a then -1 else
  bif bAt s (dEnd s a) == 46 then (bif (dEnd s a == a) && (dEnd s (dEnd s a + 1) == dEnd s a + 1) then -1 else expEnd s (dEnd s (dEnd s a + 1))) else (bif dEnd s a == a then -1 else expEnd s (dEnd s a))
section
variable {s : List UInt8} (h : s.length ≤ 1048576)
include h
set_option maxHeartbeats 2000000 in
theorem impl_NumEnd_ok (a : Int) (ha : a ≤ 1048576) : M.impl_NumEnd s a = some (numEnd s a) := by
  simp only [M.impl_NumEnd, M.impl_NumEnd_C, M.impl_within, M.impl_within_C, numEnd]
  rw [wrap_ok (by omega) (by omega)]
  by_cases h0 : a < 0
  · rw [decide_eq_false (by omega), cond_false, some_bind, Bool.not_false, cond_true, if_pos (.inl h0)]
  · rw [decide_eq_true (by omega), cond_true, some_bind]
    by_cases h1 : (s.length : Int) ≤ a
    · rw [decide_eq_false (by omega), Bool.not_false, cond_true, if_pos (.inr h1)]
    · rw [decide_eq_true (by omega), Bool.not_true, cond_false, if_neg (by omega), impl_digitsEnd_ok h a (by omega) (by omega), some_bind]
      have e1 := dEnd_range h (a := a) (by omega)
      generalize hE : dEnd s a = e at e1 ⊢
      simp only [impl_byteAt_ok h, some_bind]
      rw [wrap_ok (n := e + 1) (by omega) (by omega), wrap_ok (n := e - a) (by omega) (by omega), impl_digitsEnd_ok h (e + 1) (by omega) (by omega), some_bind]
      have e2 := dEnd_range h (a := e + 1) (by omega)
      generalize hK : dEnd s (e + 1) = k at e2 ⊢
      have hz : (IntKind.i64.wrap (e - a + IntKind.i64.wrap (IntKind.i64.wrap (k - e) - 1)) == 0) = ((e == a) && (k == e + 1)) := by
        rw [wrap_ok (n := k - e) (by omega) (by omega), wrap_ok (n := k - e - 1) (by omega) (by omega), wrap_ok (by omega) (by omega), Bool.eq_iff_iff]
        simp only [Bool.and_eq_true, beq_iff_eq]
        omega
      have hz2 : (e - a == 0) = (e == a) := by
        rw [Bool.eq_iff_iff]
        simp only [beq_iff_eq]
        omega
      rw [hz, hz2]
      have ex : ∀ r : Int, 0 ≤ r → r ≤ 1048578 → (bif bAt s r == 101 then
           ((some (bAt s (IntKind.i64.wrap (r + 1)))).bind fun r348 =>
            (bif r348 == 43 then
             ((M.impl_digitsEnd s (IntKind.i64.wrap (IntKind.i64.wrap (r + 1) + 1))).bind fun r349 =>
              (bif decide (r349 > IntKind.i64.wrap (IntKind.i64.wrap (r + 1) + 1)) then (some r349) else (some r))) else
             (bif r348 == 45 then
              ((M.impl_digitsEnd s (IntKind.i64.wrap (IntKind.i64.wrap (r + 1) + 1))).bind fun r350 =>
               (bif decide (r350 > IntKind.i64.wrap (IntKind.i64.wrap (r + 1) + 1)) then (some r350) else (some r))) else
              ((M.impl_digitsEnd s (IntKind.i64.wrap (r + 1))).bind fun r351 => (bif decide (r351 > IntKind.i64.wrap (r + 1)) then (some r351) else (some r)))))) else
           (bif bAt s r == 69 then
            ((some (bAt s (IntKind.i64.wrap (r + 1)))).bind fun r352 =>
             (bif r352 == 43 then
              ((M.impl_digitsEnd s (IntKind.i64.wrap (IntKind.i64.wrap (r + 1) + 1))).bind fun r353 =>
               (bif decide (r353 > IntKind.i64.wrap (IntKind.i64.wrap (r + 1) + 1)) then (some r353) else (some r))) else
              (bif r352 == 45 then
               ((M.impl_digitsEnd s (IntKind.i64.wrap (IntKind.i64.wrap (r + 1) + 1))).bind fun r354 =>
                (bif decide (r354 > IntKind.i64.wrap (IntKind.i64.wrap (r + 1) + 1)) then (some r354) else (some r))) else
               ((M.impl_digitsEnd s (IntKind.i64.wrap (r + 1))).bind fun r355 => (bif decide (r355 > IntKind.i64.wrap (r + 1)) then (some r355) else (some r)))))) else (some r))) = some (expEnd s r) := by
        intro r h0 h1
        rw [wrap_ok (n := r + 1) (by omega) (by omega), wrap_ok (n := r + 1 + 1) (by omega) (by omega), impl_digitsEnd_ok h (r + 1) (by omega) (by omega), impl_digitsEnd_ok h (r + 1 + 1) (by omega) (by omega), expEnd]
        simp only [some_bind]
        cases bAt s r == 101 <;> cases bAt s r == 69 <;> cases bAt s (r + 1) == 43 <;> cases bAt s (r + 1) == 45 <;> cases decide (dEnd s (r + 1 + 1) > r + 1 + 1) <;> cases decide (dEnd s (r + 1) > r + 1) <;> rfl
      simp only [some_bind] at ex
      cases bAt s e == 46 with
      | true =>
        simp only [cond_true]
        cases (e == a) && (k == e + 1) with
        | true => rfl
        | false =>
          simp only [cond_false]
          exact ex k (by omega) (by omega)
      | false =>
        simp only [cond_false]
        cases e == a with
        | true => rfl
        | false =>
          simp only [cond_false]
          have h2 := ex e (by omega) (by omega)
          rw [wrap_ok (n := e + 1) (by omega) (by omega), impl_digitsEnd_ok h (e + 1) (by omega) (by omega), hK] at h2
          simp only [some_bind] at h2
          exact h2
theorem spec_NumEnd_ok (a : Int) (ha : a ≤ 1048576) : M.spec_NumEnd s a = some (numEnd s a) := by
  simp only [M.spec_NumEnd, M.spec_NumEnd_C, numEnd]
  by_cases h0 : a < 0
  · rw [decide_eq_true h0, cond_true, if_pos (.inl h0)]
  · rw [decide_eq_false h0, cond_false]
    have e1 := dEnd_range h (a := a) (by omega)
    rw [spec_l4Digits_ok h a (by omega) (by omega), some_bind]
    simp only [spec_l4Byte_ok h, some_bind]
    by_cases h1 : (s.length : Int) ≤ a
    · have he : dEnd s a = a := by omega
      obtain ⟨i, rfl⟩ : ∃ i : Nat, a = i := ⟨a.toNat, by omega⟩
      have hb : bAt s (i : Int) = -1 := by rw [bAt_nat, List.getElem?_eq_none (by omega)]
      rw [he, hb, if_pos (.inr h1), show ((-1 : Int) == 46) = false from rfl, cond_false, beq_self_eq_true, cond_true]
    · rw [if_neg (by omega)]
      generalize hE : dEnd s a = e at e1 ⊢
      have e2 := dEnd_range h (a := e + 1) (by omega)
      rw [wrap_ok (n := e + 1) (by omega) (by omega), spec_l4Digits_ok h (e + 1) (by omega) (by omega), some_bind]
      have ex : ∀ r : Int, 0 ≤ r → r ≤ 1048578 → (bif bAt s r == 101 then
            (bif bAt s (IntKind.i64.wrap (r + 1)) == 43 then
              ((M.spec_l4Digits s (IntKind.i64.wrap (IntKind.i64.wrap (r + 1) + 1))).bind fun r132 =>
               (bif decide (r132 > IntKind.i64.wrap (IntKind.i64.wrap (r + 1) + 1)) then
                ((M.spec_l4Digits s (IntKind.i64.wrap (IntKind.i64.wrap (r + 1) + 1))).bind fun r133 => (some r133)) else (some r))) else
               (bif bAt s (IntKind.i64.wrap (r + 1)) == 45 then
                ((M.spec_l4Digits s (IntKind.i64.wrap (IntKind.i64.wrap (r + 1) + 1))).bind fun r135 =>
                 (bif decide (r135 > IntKind.i64.wrap (IntKind.i64.wrap (r + 1) + 1)) then
                  ((M.spec_l4Digits s (IntKind.i64.wrap (IntKind.i64.wrap (r + 1) + 1))).bind fun r136 => (some r136)) else (some r))) else
                ((M.spec_l4Digits s (IntKind.i64.wrap (r + 1))).bind fun r137 =>
                 (bif decide (r137 > IntKind.i64.wrap (r + 1)) then ((M.spec_l4Digits s (IntKind.i64.wrap (r + 1))).bind fun r138 => (some r138)) else (some r))))) else
             (bif bAt s r == 69 then
               (bif bAt s (IntKind.i64.wrap (r + 1)) == 43 then
                ((M.spec_l4Digits s (IntKind.i64.wrap (IntKind.i64.wrap (r + 1) + 1))).bind fun r141 =>
                 (bif decide (r141 > IntKind.i64.wrap (IntKind.i64.wrap (r + 1) + 1)) then
                  ((M.spec_l4Digits s (IntKind.i64.wrap (IntKind.i64.wrap (r + 1) + 1))).bind fun r142 => (some r142)) else (some r))) else
                 (bif bAt s (IntKind.i64.wrap (r + 1)) == 45 then
                  ((M.spec_l4Digits s (IntKind.i64.wrap (IntKind.i64.wrap (r + 1) + 1))).bind fun r144 =>
                   (bif decide (r144 > IntKind.i64.wrap (IntKind.i64.wrap (r + 1) + 1)) then
                    ((M.spec_l4Digits s (IntKind.i64.wrap (IntKind.i64.wrap (r + 1) + 1))).bind fun r145 => (some r145)) else (some r))) else
                  ((M.spec_l4Digits s (IntKind.i64.wrap (r + 1))).bind fun r146 =>
                   (bif decide (r146 > IntKind.i64.wrap (r + 1)) then ((M.spec_l4Digits s (IntKind.i64.wrap (r + 1))).bind fun r147 => (some r147)) else (some r))))) else (some r))) = some (expEnd s r) := by
        intro r h0 h1
        rw [wrap_ok (n := r + 1) (by omega) (by omega), wrap_ok (n := r + 1 + 1) (by omega) (by omega), spec_l4Digits_ok h (r + 1) (by omega) (by omega), spec_l4Digits_ok h (r + 1 + 1) (by omega) (by omega), expEnd]
        simp only [some_bind]
        cases bAt s r == 101 <;> cases bAt s r == 69 <;> cases bAt s (r + 1) == 43 <;> cases bAt s (r + 1) == 45 <;> cases decide (dEnd s (r + 1 + 1) > r + 1 + 1) <;> cases decide (dEnd s (r + 1) > r + 1) <;> rfl
      generalize hK : dEnd s (e + 1) = k at e2 ⊢
      have hka : (k == a) = false := by rw [beq_eq_false_iff_ne]; omega
      rw [hka]
      cases bAt s e == 46 with
      | true =>
        simp only [cond_true, cond_false]
        cases e == a with
        | true =>
          simp only [cond_true, Bool.true_and]
          cases k == e + 1 with
          | true => rfl
          | false =>
            simp only [cond_false]
            exact ex k (by omega) (by omega)
        | false =>
          simp only [cond_false, Bool.false_and]
          exact ex k (by omega) (by omega)
      | false =>
        simp only [cond_false]
        cases e == a with
        | true => rfl
        | false =>
          simp only [cond_false]
          have h2 := ex e (by omega) (by omega)
          rw [wrap_ok (n := e + 1) (by omega) (by omega), spec_l4Digits_ok h (e + 1) (by omega) (by omega), hK] at h2
          simp only [some_bind] at h2
          exact h2
end
def qEnd (q : Int) : List UInt8 → Int → Int
  | [], _ => -1
  | c :: l, i => if (c.toNat : Int) = q then i + 1 else if (c.toNat : Int) = 10 then -1 else if (c.toNat : Int) = 92 then (match l with
      | [] => -1
      | d :: l' => if (d.toNat : Int) = 10 then -1 else qEnd q l' (i + 2)) else qEnd q l (i + 1)
theorem qEnd_cons (q : Int) (c : UInt8) (l : List UInt8) (i : Int) : qEnd q (c :: l) i = if (c.toNat : Int) = q then i + 1 else if (c.toNat : Int) = 10 then -1 else if (c.toNat : Int) = 92 then (match l with
      | [] => -1
      | d :: l' => if (d.toNat : Int) = 10 then -1 else qEnd q l' (i + 2)) else qEnd q l (i + 1) := by
  cases l with
  | nil => simp [qEnd]
  | cons d l => simp [qEnd]
def hdI : List UInt8 → Int
  | [] => -1
  | d :: _ => (d.toNat : Int)
def quoted (s : List UInt8) (a q : Int) : Int := if bAt s a = q then qEnd q (s.drop (a + 1).toNat) (a + 1) else -1
theorem qloop {s : List UInt8} (h : s.length ≤ 1048576) (q : Int) (hq : q ≠ 10) : ∀ (n : Nat) (rest pre : List UInt8), rest.length ≤ n → s = pre ++ rest →
    (∃ r, M.spec_l4Quoted_l4 s q (pre.length : Int) = some r ∧ (sumE r some fun u => letE u fun _ => some (-1)) = some (qEnd q rest (pre.length : Int))) ∧
    (∃ r, M.impl_quotedEnd_l4 s q (pre.length : Int) = some r ∧ (sumE r some fun u => letE u fun _ => some (-1)) = some (qEnd q rest (pre.length : Int)))
  | n, [], pre, hn, e => by
    have hl : pre.length = s.length := by rw [e]; simp
    constructor
    · refine ⟨.inr (pre.length : Int), ?_, rfl⟩
      rw [M.spec_l4Quoted_l4]
      refine loopM_end ?_
      simp only [M.spec_l4Quoted_l4_b, M.spec_l4Quoted_l4_C]
      rw [decide_eq_false (by omega), cond_false]
    · refine ⟨.inr (pre.length : Int), ?_, rfl⟩
      rw [M.impl_quotedEnd_l4]
      refine loopM_end ?_
      simp only [M.impl_quotedEnd_l4_b, M.impl_quotedEnd_l4_C]
      rw [decide_eq_false (by omega), cond_false]
  | 0, c :: rest, pre, hn, e => by simp at hn
  | n + 1, c :: rest, pre, hn, e => by
    simp only [List.length_cons] at hn
    have hl : s.length = pre.length + (rest.length + 1) := by rw [e]; simp
    have hget : s[pre.length]? = some c := by rw [e, List.getElem?_append_right (Nat.le_refl _), Nat.sub_self]; rfl
    have hc := u8_lt c
    have hw : IntKind.i64.wrap ((c.toNat : Nat) : Int) = (c.toNat : Int) := wrap_ok (by omega) (by omega)
    have hw1 : IntKind.i64.wrap ((pre.length : Int) + 1) = ((pre.length + 1 : Nat) : Int) := by rw [wrap_ok (by omega) (by omega)]; omega
    have hw2 : IntKind.i64.wrap (((pre.length + 1 : Nat) : Int) + 1) = ((pre.length + 2 : Nat) : Int) := by rw [wrap_ok (by omega) (by omega)]; omega
    have hnext : bAt s ((pre.length + 1 : Nat) : Int) = hdI rest := by
      rw [bAt_nat, e, List.getElem?_append_right (by omega), show pre.length + 1 - pre.length = 1 by omega]
      cases rest <;> rfl
    have hS : M.spec_l4Quoted_l4_b s q (pre.length : Int) = some (if (c.toNat : Int) = q then .inr (.inl ((pre.length + 1 : Nat) : Int)) else if (c.toNat : Int) = 10 then .inr (.inl (-1)) else if (c.toNat : Int) = 92 then
        (if bAt s ((pre.length + 1 : Nat) : Int) = 10 then .inr (.inl (-1)) else .inl ((pre.length + 2 : Nat) : Int)) else .inl ((pre.length + 1 : Nat) : Int)) := by
      simp only [M.spec_l4Quoted_l4_b, M.spec_l4Quoted_l4_C, idx_nat, hget, some_bind, hw, hw1, hw2, spec_l4Byte_ok h]
      rw [decide_eq_true (by omega), cond_true]
      by_cases c1 : (c.toNat : Int) = q
      · rw [if_pos c1, show ((c.toNat : Int) == q) = true by simpa using c1, cond_true]
      · rw [if_neg c1, show ((c.toNat : Int) == q) = false by simpa using c1, cond_false]
        by_cases c2 : (c.toNat : Int) = 10
        · rw [if_pos c2, show ((c.toNat : Int) == 10) = true by simpa using c2, cond_true]
        · rw [if_neg c2, show ((c.toNat : Int) == 10) = false by simpa using c2, cond_false]
          by_cases c3 : (c.toNat : Int) = 92
          · rw [if_pos c3, show ((c.toNat : Int) == 92) = true by simpa using c3, cond_true]
            by_cases c4 : bAt s ((pre.length + 1 : Nat) : Int) = 10
            · rw [if_pos c4, c4]; rfl
            · rw [if_neg c4, show (bAt s ((pre.length + 1 : Nat) : Int) == 10) = false by simpa using c4, cond_false]
          · rw [if_neg c3, show ((c.toNat : Int) == 92) = false by simpa using c3, cond_false]
    have hI : M.impl_quotedEnd_l4_b s q (pre.length : Int) = some (if (c.toNat : Int) = 10 then .inr (.inr (pre.length : Int)) else if (c.toNat : Int) = q then .inr (.inl ((pre.length + 1 : Nat) : Int)) else if (c.toNat : Int) = 92 then
        (if bAt s ((pre.length + 1 : Nat) : Int) = 10 then .inl ((pre.length + 1 : Nat) : Int) else .inl ((pre.length + 2 : Nat) : Int)) else .inl ((pre.length + 1 : Nat) : Int)) := by
      simp only [M.impl_quotedEnd_l4_b, M.impl_quotedEnd_l4_C, idx_nat, hget, some_bind, hw, hw1, hw2, impl_byteAt_ok h]
      rw [decide_eq_true (by omega), cond_true]
      by_cases c2 : (c.toNat : Int) = 10
      · rw [if_pos c2, show ((c.toNat : Int) != 10) = false by simpa using c2, cond_false]
      · rw [if_neg c2, show ((c.toNat : Int) != 10) = true by simpa using c2, cond_true]
        by_cases c1 : (c.toNat : Int) = q
        · rw [if_pos c1, show ((c.toNat : Int) == q) = true by simpa using c1, cond_true]
        · rw [if_neg c1, show ((c.toNat : Int) == q) = false by simpa using c1, cond_false]
          by_cases c3 : (c.toNat : Int) = 92
          · rw [if_pos c3, show ((c.toNat : Int) == 92) = true by simpa using c3, cond_true]
            by_cases c4 : bAt s ((pre.length + 1 : Nat) : Int) = 10
            · rw [if_pos c4, c4]; rfl
            · rw [if_neg c4, show (bAt s ((pre.length + 1 : Nat) : Int) != 10) = true by simpa using c4, cond_true]
          · rw [if_neg c3, show ((c.toNat : Int) == 92) = false by simpa using c3, cond_false]
    have e1 : s = (pre ++ [c]) ++ rest := by rw [e]; simp
    have ih1 := qloop h q hq n rest (pre ++ [c]) (by omega) e1
    rw [List.length_append, List.length_singleton] at ih1
    rw [M.spec_l4Quoted_l4, M.impl_quotedEnd_l4] at ih1 ⊢
    rw [qEnd_cons]
    by_cases c1 : (c.toNat : Int) = q
    · have c2 : ¬ (c.toNat : Int) = 10 := by omega
      rw [if_pos c1]
      rw [if_pos c1] at hS
      rw [if_neg c2, if_pos c1] at hI
      refine ⟨⟨_, loopM_end hS, ?_⟩, ⟨_, loopM_end hI, ?_⟩⟩ <;> simp [sumE]
    · rw [if_neg c1]
      rw [if_neg c1] at hS
      by_cases c2 : (c.toNat : Int) = 10
      · rw [if_pos c2]
        rw [if_pos c2] at hS hI
        exact ⟨⟨_, loopM_end hS, rfl⟩, ⟨_, loopM_end hI, rfl⟩⟩
      · rw [if_neg c2]
        rw [if_neg c2] at hS hI
        rw [if_neg c1] at hI
        by_cases c3 : (c.toNat : Int) = 92
        · rw [if_pos c3]
          rw [if_pos c3] at hS hI
          cases rest with
          | nil =>
            rw [hnext, hdI] at hS hI
            simp only [show ¬ ((-1 : Int) = 10) by omega, if_false] at hS hI
            have hend : ∀ (b : Int → Option (Int ⊕ (Int ⊕ Int))), True := fun _ => trivial
            simp only [List.length_nil] at hl
            refine ⟨⟨.inr ((pre.length + 2 : Nat) : Int), ?_, rfl⟩, ⟨.inr ((pre.length + 2 : Nat) : Int), ?_, rfl⟩⟩
            · rw [loopM_next hS]
              refine loopM_end ?_
              simp only [M.spec_l4Quoted_l4_b, M.spec_l4Quoted_l4_C]
              rw [decide_eq_false (by omega), cond_false]
            · rw [loopM_next hI]
              refine loopM_end ?_
              simp only [M.impl_quotedEnd_l4_b, M.impl_quotedEnd_l4_C]
              rw [decide_eq_false (by omega), cond_false]
          | cons d rest' =>
            simp only [hdI] at hnext ⊢
            rw [hnext] at hS hI
            by_cases c4 : (d.toNat : Int) = 10
            · rw [if_pos c4]
              rw [if_pos c4] at hS hI
              refine ⟨⟨_, loopM_end hS, rfl⟩, ?_⟩
              obtain ⟨r, h1, h2⟩ := ih1.2
              refine ⟨r, by rw [loopM_next hI]; exact h1, ?_⟩
              rw [h2, qEnd_cons, if_neg (by omega), if_pos c4]
            · rw [if_neg c4]
              rw [if_neg c4] at hS hI
              have e2 : s = (pre ++ [c, d]) ++ rest' := by rw [e]; simp
              simp only [List.length_cons] at hn
              have ih2 := qloop h q hq n rest' (pre ++ [c, d]) (by omega) e2
              rw [List.length_append, show [c, d].length = 2 from rfl, M.spec_l4Quoted_l4, M.impl_quotedEnd_l4] at ih2
              rw [loopM_next hS, loopM_next hI, show (pre.length : Int) + 2 = ((pre.length + 2 : Nat) : Int) by omega]
              exact ih2
        · rw [if_neg c3]
          rw [if_neg c3] at hS hI
          rw [loopM_next hS, loopM_next hI, show (pre.length : Int) + 1 = ((pre.length + 1 : Nat) : Int) by omega]
          exact ih1
section
variable {s : List UInt8} (h : s.length ≤ 1048576)
include h
theorem quoted_ok (a q : Int) (h0 : 0 ≤ a) (h1 : a ≤ 1048576) (hq : 0 ≤ q) (hq2 : q ≠ 10) : M.spec_l4Quoted s a q = some (quoted s a q) ∧ M.impl_quotedEnd s a q = some (quoted s a q) := by
  simp only [M.spec_l4Quoted, M.spec_l4Quoted_C, M.impl_quotedEnd, M.impl_quotedEnd_C, spec_l4Byte_ok h, impl_byteAt_ok h, some_bind, quoted]
  by_cases hb : bAt s a = q
  · rw [if_pos hb, show (bAt s a != q) = false by simpa using hb, cond_false, cond_false, wrap_ok (by omega) (by omega)]
    obtain ⟨i, rfl⟩ : ∃ i : Nat, a = i := ⟨a.toNat, by omega⟩
    have hi : i < s.length := by
      rcases Nat.lt_or_ge i s.length with hlt | hge
      · exact hlt
      · rw [bAt_nat, List.getElem?_eq_none hge] at hb
        simp only at hb
        omega
    obtain ⟨⟨r, k1, k2⟩, ⟨r', k3, k4⟩⟩ := qloop h q hq2 _ (s.drop (i + 1)) (s.take (i + 1)) (Nat.le_refl _) (List.take_append_drop _ s).symm
    rw [List.length_take, Nat.min_eq_left (by omega)] at k1 k2 k3 k4
    rw [show (i : Int) + 1 = ((i + 1 : Nat) : Int) by omega, Int.toNat_natCast, k1, k3, some_bind, some_bind]
    exact ⟨k2, k4⟩
  · rw [if_neg hb, show (bAt s a != q) = true by simpa using hb, cond_true, cond_true]
    exact ⟨rfl, rfl⟩
theorem StrEnd_ok (a : Int) (h0 : 0 ≤ a) (h1 : a ≤ 1048576) : M.spec_StrEnd s a = some (quoted s a 34) ∧ M.impl_StrEnd s a = some (quoted s a 34) := by
  have := quoted_ok h a 34 h0 h1 (by omega) (by omega)
  simp only [M.spec_StrEnd, M.spec_StrEnd_C, M.impl_StrEnd, M.impl_StrEnd_C, this.1, this.2, some_bind]
  constructor <;> first | rfl | trivial
def ereEnd (s : List UInt8) (a : Int) : Int := bif quoted s a 47 == a + 2 then -1 else quoted s a 47
theorem EreEnd_ok (a : Int) (h0 : 0 ≤ a) (h1 : a ≤ 1048576) : M.spec_EreEnd s a = some (ereEnd s a) ∧ M.impl_EreEnd s a = some (ereEnd s a) := by
  have := quoted_ok h a 47 h0 h1 (by omega) (by omega)
  simp only [M.spec_EreEnd, M.spec_EreEnd_C, M.impl_EreEnd, M.impl_EreEnd_C, this.1, this.2, some_bind, ereEnd]
  rw [wrap_ok (by omega) (by omega)]
  cases quoted s a 47 == a + 2 <;> simp
end
end Go.Proofs.YtpcdaeebbpedoaaGreatDoor
