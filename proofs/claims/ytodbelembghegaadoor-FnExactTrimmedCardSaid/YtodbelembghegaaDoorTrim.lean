/-
  A text without blanks at the ends of lines: both programs answer alike; the law in plain Lean.
-/
import Derived.Test.YtodbelembghegaaDoorTLines
namespace Go.Proofs.YtodbelembghegaaDoor
set_option linter.unusedVariables false
set_option linter.unusedSimpArgs false
open Go Go.Vm

def isB (c : UInt8) : Bool := c == 32 || c == 9
theorem u8_eq (c : UInt8) (n : Nat) (h : n < 256) : (((c.toNat : Nat) : Int) == (n : Int)) = (c == UInt8.ofNat n) := by
  rw [Bool.eq_iff_iff, beq_iff_eq, beq_iff_eq]
  constructor
  · intro e
    apply UInt8.toNat_inj.1
    rw [UInt8.toNat_ofNat', Nat.mod_eq_of_lt h]
    omega
  · rintro rfl
    rw [UInt8.toNat_ofNat', Nat.mod_eq_of_lt h]
theorem u8_lt (c : UInt8) : c.toNat < 256 := c.toNat_lt
theorem spec_IsBlank_ok (c : UInt8) : M.spec_IsBlank (IntKind.i64.wrap (c.toNat : Int)) = some (isB c) := by
  have := u8_lt c
  simp only [M.spec_IsBlank, M.spec_IsBlank_C]
  rw [wrap_ok (by omega) (by omega), show ((32 : Int)) = ((32 : Nat) : Int) from rfl, show ((9 : Int)) = ((9 : Nat) : Int) from rfl, u8_eq _ _ (by omega), u8_eq _ _ (by omega), isB]
  cases h : c == UInt8.ofNat 32 <;> simp_all
theorem l47End_loop : ∀ (t rest : List UInt8), t.length + rest.length ≤ 1048576 → ∃ b, M.spec_l47End_l2 (t.reverse ++ rest) ((t.length : Nat) : Int) = some (((t.dropWhile isB).length : Int), b)
  | [], rest, h => by
    refine ⟨false, ?_⟩
    rw [M.spec_l47End_l2]
    apply loopM_end
    simp only [M.spec_l47End_l2_b, M.spec_l47End_l2_C]
    rfl
  | c :: t, rest, h => by
    simp only [List.length_cons] at h
    have hget : ((c :: t).reverse ++ rest)[t.length]? = some c := by
      rw [List.reverse_cons, List.append_assoc, List.getElem?_append_right (by simp), List.length_reverse, Nat.sub_self]
      rfl
    have hb : M.spec_l47End_l2_b ((c :: t).reverse ++ rest) (((c :: t).length : Nat) : Int) = some (bif isB c then .inl ((t.length : Nat) : Int) else .inr ((((c :: t).length : Nat) : Int), false)) := by
      simp only [M.spec_l47End_l2_b, M.spec_l47End_l2_C, List.length_cons]
      rw [decide_eq_true (by omega), cond_true, wrap_ok (by omega) (by omega), show ((t.length + 1 : Nat) : Int) - 1 = ((t.length : Nat) : Int) by omega, idx_nat, hget, some_bind, spec_IsBlank_ok, some_bind]
      cases isB c <;> rfl
    cases hc : isB c with
    | true =>
      obtain ⟨b, hh⟩ := l47End_loop t (c :: rest) (by simp only [List.length_cons]; omega)
      refine ⟨b, ?_⟩
      rw [M.spec_l47End_l2] at hh ⊢
      rw [hc, cond_true] at hb
      rw [loopM_next hb, List.dropWhile_cons, hc, if_pos rfl]
      rw [List.reverse_cons, List.append_assoc]
      exact hh
    | false =>
      refine ⟨false, ?_⟩
      rw [hc, cond_false] at hb
      rw [M.spec_l47End_l2, loopM_end hb, List.dropWhile_cons, hc]
      rfl
def trimLen (s : List UInt8) : Nat := (s.reverse.dropWhile isB).length
theorem spec_l47End_ok (s : List UInt8) (h : s.length ≤ 1048576) : M.spec_l47End s = some (trimLen s : Int) := by
  obtain ⟨b, hb⟩ := l47End_loop s.reverse [] (by simpa using h)
  rw [List.reverse_reverse, List.append_nil, List.length_reverse] at hb
  simp only [M.spec_l47End, M.spec_l47End_C]
  rw [hb, some_bind]
  rfl
theorem mem_len {l : List (List UInt8)} {N : Nat} (h : ∀ s, s ∈ l → s.length ≤ N) {i : Nat} {s : List UInt8} (hi : l[i]? = some s) : s.length ≤ N := h s (List.mem_of_getElem? hi)
theorem splitNl_mem : ∀ (l x : List UInt8), x ∈ splitNl l → x.length ≤ l.length
  | [], x, h => by simp [splitNl] at h; simp [h]
  | c :: l, x, h => by
    rw [splitNl] at h
    split at h
    · rcases List.mem_cons.1 h with rfl | h
      · simp
      · have := splitNl_mem l x h
        simp only [List.length_cons]; omega
    · cases hs : splitNl l with
      | nil => exact absurd hs (splitNl_ne l)
      | cons y t =>
        rw [hs, addHd] at h
        have hy := splitNl_mem l y (by rw [hs]; simp)
        rcases List.mem_cons.1 h with rfl | h
        · simp only [List.singleton_append, List.length_cons]; omega
        · have := splitNl_mem l x (by rw [hs]; simp [h])
          simp only [List.length_cons]; omega
theorem linesOf_mem {s x : List UInt8} (h : x ∈ linesOf s) : x.length ≤ s.length := by
  unfold linesOf at h
  split at h
  · exact splitNl_mem s x ((List.dropLast_sublist _).subset h)
  · exact splitNl_mem s x h
def tr (s : List UInt8) : List UInt8 := (s.reverse.dropWhile isB).reverse
theorem take_tr (s : List UInt8) : s.take (trimLen s) = tr s := by
  have h := List.takeWhile_append_dropWhile (p := isB) (l := s.reverse)
  have h2 : s = tr s ++ (s.reverse.takeWhile isB).reverse := by
    have := congrArg List.reverse h
    rw [List.reverse_append, List.reverse_reverse] at this
    exact this.symm
  have h3 : trimLen s = (tr s).length := by simp [trimLen, tr]
  rw [h3]
  conv => lhs; rw [h2]
  rw [List.take_left' (by rw [← h2])]
theorem trimRight_tr (s : List UInt8) (h : s.length ≤ 1048576) : M.strings_TrimRight s [32, 9] = some (tr s) := by
  have hb : (Nat.ble s.length 9223372036854775807 && (Nat.blt [(32 : UInt8), 9].length 4294967281 && [(32 : UInt8), 9].all fun b => Nat.blt b.toNat 128)) = true := by
    rw [ble_ok (by omega)]
    rfl
  rw [M.strings_TrimRight, hb, cond_true, Lib.trimRightS, tr]
  have : (fun x => [(32 : UInt8), 9].contains x) = isB := by
    funext x
    simp only [List.contains_cons, isB]
    simp
  rw [this]
def stepT (w : List UInt8 × List UInt8) (s : List UInt8) : List UInt8 × List UInt8 := if tr s = [] ∧ w.2 = [] then w else (w.1 ++ tr s ++ [10], tr s)
def accT (l : List (List UInt8)) : Nat → List UInt8 × List UInt8
  | 0 => ([], [])
  | i + 1 => stepT (accT l i) (l[i]?.getD [])
theorem tr_len (s : List UInt8) : (tr s).length ≤ s.length := by
  have := (List.dropWhile_sublist (p := isB) (l := s.reverse)).length_le
  simpa [tr] using this
theorem accT_len (l : List (List UInt8)) (hs : ∀ s, s ∈ l → s.length ≤ 1048576) : ∀ i, i ≤ l.length → (accT l i).1.length ≤ 1048577 * i
  | 0, _ => by simp [accT]
  | i + 1, hi => by
    obtain ⟨s, hsi⟩ : ∃ s, l[i]? = some s := ⟨l[i], by simp⟩
    have h1 := accT_len l hs i (by omega)
    have h2 := tr_len s
    have h3 := mem_len hs hsi
    rw [accT, hsi, Option.getD_some, stepT]
    split
    · omega
    · simp only [List.length_append, List.length_singleton]
      omega
theorem spec_trim_loop (l : List (List UInt8)) (hl : l.length ≤ 1048577) (hs : ∀ s, s ∈ l → s.length ≤ 1048576) :
    M.spec_Trimmed_l5 (encS l) ([], [], 0) = some ((accT l l.length).1, (accT l l.length).2, (l.length : Int), false) := by
  have hloop := loopM_run (b := M.spec_Trimmed_l5_b (encS l)) (t := ((accT l l.length).1, (accT l l.length).2, (l.length : Int), false)) (fun i => ((accT l i).1, (accT l i).2, (i : Int))) l.length
    (by
      intro i hi
      obtain ⟨s, hsi⟩ : ∃ s, l[i]? = some s := ⟨l[i], by simp [hi]⟩
      have hsl := mem_len hs hsi
      have hal := accT_len l hs i (by omega)
      have htl := tr_len s
      have htk := take_tr s
      have hle : trimLen s ≤ s.length := by
        have := (List.dropWhile_sublist (p := isB) (l := s.reverse)).length_le
        simpa [trimLen] using this
      have hcut : cut s 0 (trimLen s : Int) = some (tr s) := by
        have := cut_ok (s := s) (a := 0) (b := trimLen s) (by omega) hle
        rw [nat0] at this
        rw [this, List.drop_zero, Nat.sub_zero, htk]
      simp only [M.spec_Trimmed_l5_b, M.spec_Trimmed_l5_C, encS_length, idx_nat, Int.toNat_natCast, get_encS, hsi, Option.map_some, some_bind, cS0, spec_l47End_ok s hsl, hcut]
      rw [decide_eq_true (by omega), cond_true, wrap_ok (n := (i : Int) + 1) (by omega) (by omega), ble_ok (by omega), cond_true, ble_ok (by rw [List.length_append]; omega), cond_true, accT, hsi, Option.getD_some, stepT]
      by_cases h1 : tr s = []
      · rw [show (tr s == []) = true by rw [h1]; rfl, cond_true]
        by_cases h2 : (accT l i).2 = []
        · rw [if_pos ⟨h1, h2⟩, show ((accT l i).2 == []) = true by rw [h2]; rfl, cond_true]
          rfl
        · rw [if_neg (fun h => h2 h.2), show ((accT l i).2 == []) = false by simpa using h2, cond_false]
          rfl
      · rw [show (tr s == []) = false by simpa using h1, cond_false, if_neg (fun h => h1 h.1)]
        rfl)
    (by
      simp only [M.spec_Trimmed_l5_b, M.spec_Trimmed_l5_C, encS_length]
      rw [decide_eq_false (by omega), cond_false]) 0 (Nat.zero_le _)
  rw [M.spec_Trimmed_l5]
  exact hloop
theorem impl_trim_loop (l : List (List UInt8)) (hl : l.length ≤ 1048577) (hs : ∀ s, s ∈ l → s.length ≤ 1048576) :
    M.impl_Trimmed_l3 (l.length : Int) (encS l) ([], [], 0) = some ((accT l l.length).1, (accT l l.length).2, (l.length : Int), false) := by
  have hloop := loopM_run (b := M.impl_Trimmed_l3_b (l.length : Int) (encS l)) (t := ((accT l l.length).1, (accT l l.length).2, (l.length : Int), false)) (fun i => ((accT l i).1, (accT l i).2, (i : Int))) l.length
    (by
      intro i hi
      obtain ⟨s, hsi⟩ : ∃ s, l[i]? = some s := ⟨l[i], by simp [hi]⟩
      have hsl := mem_len hs hsi
      have hal := accT_len l hs i (by omega)
      have htl := tr_len s
      simp only [M.impl_Trimmed_l3_b, M.impl_Trimmed_l3_C, idx_nat, Int.toNat_natCast, get_encS, hsi, Option.map_some, some_bind, cS0, trimRight_tr s hsl]
      rw [decide_eq_true (by omega), cond_true, wrap_ok (n := (i : Int) + 1) (by omega) (by omega), ble_ok (by omega), cond_true, ble_ok (by rw [List.length_append, List.length_singleton]; omega), cond_true, accT, hsi, Option.getD_some, stepT]
      by_cases h1 : tr s = []
      · rw [show (!(tr s == [])) = false by rw [h1]; rfl, cond_false]
        by_cases h2 : (accT l i).2 = []
        · rw [if_pos ⟨h1, h2⟩, show (!((accT l i).2 == [])) = false by rw [h2]; rfl, cond_false, h1]
          conv => lhs; rw [← h2]
          rfl
        · rw [if_neg (fun h => h2 h.2), show (!((accT l i).2 == [])) = true by simpa using h2, cond_true, List.append_assoc]
          rfl
      · rw [show (!(tr s == [])) = true by simpa using h1, cond_true, if_neg (fun h => h1 h.1), List.append_assoc]
        rfl)
    (by
      simp only [M.impl_Trimmed_l3_b, M.impl_Trimmed_l3_C]
      rw [decide_eq_false (by omega), cond_false]) 0 (Nat.zero_le _)
  rw [M.impl_Trimmed_l3]
  exact hloop
theorem law_Trimmed (s : List UInt8) : M.laws_FnExactTrimmed s = some true := by
  simp only [M.laws_FnExactTrimmed, M.laws_FnExactTrimmed_C]
  by_cases h : s.length ≤ 1048576
  · have hl := linesOf_len s
    have hm := fun x (hx : x ∈ linesOf s) => Nat.le_trans (linesOf_mem hx) h
    rw [decide_eq_false (by omega), cond_false]
    simp only [M.spec_Trimmed, M.spec_Trimmed_C, M.impl_Trimmed, M.impl_Trimmed_C, spec_LinesOf_ok s h, impl_LinesOf_ok s h, some_bind, encS_length]
    rw [spec_trim_loop _ (by omega) hm, impl_trim_loop _ (by omega) hm, some_bind, some_bind]
    simp only [some_bind, beq_self_eq_true, Bool.not_true, cond_false]
  · rw [decide_eq_true (by omega)]
    rfl
end Go.Proofs.YtodbelembghegaaDoor
